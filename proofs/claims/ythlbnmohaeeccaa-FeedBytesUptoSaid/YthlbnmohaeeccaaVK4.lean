/- Parts of the proof in YthlbnmohaeeccaaVFin: PxVc, PxVd, PxVe, PxTx, PxVf, PxVg, PxVh, PxVi, PxVj, PxVk, PxVp, PxVr, PxVs, PxVu, PxVv, PxVq, PxVt, PxVw, PxVl, YthlbnmohaeeccaaBulk. -/
import Derived.Test.YthlbnmohaeeccaaVK3
import Derived.Sort.Grow
import Derived.Sort.EncStr
import Derived.Lib.SlicesCompact
import Derived.Test.YthlbnmohaeeccaaRows
set_option linter.unusedVariables false
set_option linter.unusedSimpArgs false
section
namespace Go.Px
def GhW (X : Cx) (ρ : Map) (h : Heap) (w : World) (S : Nat → Prop) (Fo : Nat → List Value) : Prop := ∀ G, X.g = some G → ∀ t z n l, h.get 0 = .arr t z n l → G.J z S Fo w ∧ (∀ b, S b → b < w.heap.size) ∧ (∀ i B N, ρ i = some (B, N) → h.ok i → ¬ S B ∧ G.n0 ≤ B) ∧ ((∀ b, S b ∨ b < G.n0 → ρ.F b = Fo b) ∧ ∀ (b i : Nat) (x : Value), (Fo b)[i]? = some x → (ρ.F b)[i]? = some x) ∧ G.n0 ≤ w.heap.size ∧ S G.blk ∧ (∃ N, ρ 1 = some (G.blk, N)) ∧ (∀ b, S b → ¬ X.shut b) ∧ ∃ a, ρ.V 0 0 = some (.slice a 0 0)
theorem GhP.wit {X : Cx} {ρ : Map} {h : Heap} {w : World} (p : GhP X ρ h w) : ∃ S Fo, GhW X ρ h w S Fo ∧ (∀ b, S b → b < w.heap.size) ∧ ∀ b, S b → ¬ X.shut b := by
 cases hG : X.g with
 | none => exact ⟨fun _ => False, fun _ => [], (fun G e => by rw [hG] at e; cases e), fun _ q => q.elim, fun _ q => q.elim⟩
 | some G =>
  by_cases ha : ∃ t z n l, h.get 0 = .arr t z n l
  ·obtain ⟨t, z, n, l, e⟩ := ha
   obtain ⟨S, Fo, s⟩ := p G hG t z n l e
   refine ⟨S, Fo, fun G' e1 t' z' n' l' e2 => ?_, s.2.1, s.2.2.2.2.2.2.2.1⟩
   rw [hG] at e1; cases e1
   rw [e] at e2; cases e2
   exact s
  ·exact ⟨fun _ => False, fun _ => [], (fun G' e1 t z n l e2 => absurd ⟨t, z, n, l, e2⟩ ha), fun _ q => q.elim, fun _ q => q.elim⟩
theorem GhW.gh {X : Cx} {ρ : Map} {h : Heap} {w : World} {S : Nat → Prop} {Fo : Nat → List Value} (p : GhW X ρ h w S Fo) : GhP X ρ h w := fun G hG t z n l e => ⟨S, Fo, p G hG t z n l e⟩
theorem fo_nil {F F' : Nat → List Value} (h : ∀ (b i : Nat) (x : Value), (F b)[i]? = some x → (F' b)[i]? = some x) {b : Nat} (e : F' b = []) : F b = [] := by
 cases hl : F b with
 | nil => rfl
 | cons x r =>
  have := h b 0 x (by rw [hl]; rfl)
  rw [e] at this; simp at this
theorem PI.world {X : Cx} {ρ : Map} {h : Heap} {w w' : World} (p : PI X ρ h w) (hs : Same w w') {U : Nat → Prop} (hu : ∀ b, b < w.heap.size → U b → w'.heap[b]? = w.heap[b]?) (u1 : ∀ i B N, ρ i = some (B, N) → U B) (u2 : ∀ b, ρ.F b ≠ [] → U b) (u3 : ∀ b, b < X.w0.heap.size → U b) {S : Nat → Prop} {Fo : Nat → List Value} (g : GhW X ρ h w S Fo) (u4 : ∀ b, S b → U b) (u5 : ∀ G, X.g = some G → ∀ b, b < G.n0 → U b) : PI X ρ h w' ∧ GhW X ρ h w' S Fo := by
 have hgw : GhW X ρ h w' S Fo := fun G hG t z n l e => by
  obtain ⟨s1, s2, s3, s4, s5, s6, s7, s8⟩ := g G hG t z n l e
  refine ⟨G.stab z S Fo w w' s1 hs (fun b hb q => hu b hb (q.elim (u4 b) fun q => q.elim (u5 G hG b) fun q => u2 b fun e => q (fo_nil s4.2 e))), fun b q => Nat.lt_of_lt_of_le (s2 b q) hs.size, s3, s4, Nat.le_trans s5 hs.size, s6, s7, s8⟩
 refine ⟨⟨⟨fun i B N e => Nat.lt_of_lt_of_le (p.hr.lt i B N e) hs.size, fun i B N e q => ?_, p.hr.inj, p.hr.gl, fun B j x e => ?_, p.hr.sep, p.hr.av⟩, p.wf, p.fr, p.vf, p.vu, ⟨p.ext.1.trans hs, fun b hb => ?_⟩, p.mine, p.sub, p.old, p.keep, hgw.gh⟩, hgw⟩
 ·exact (p.hr.ok i B N e q).block (hu B (p.hr.lt i B N e) (u1 i B N e))
 ·have hne : ρ.F B ≠ [] := fun q => by rw [q] at e; simp at e
  have := p.hr.fz B j x e
  unfold World.cell? at this ⊢
  have hlt := p.hr.F_lt hne
  simp only [hu B hlt (u2 B hne)]
  exact this
 ·rw [hu b (Nat.lt_of_lt_of_le hb.1 p.ext.1.size) (u3 b hb.1)]; exact p.ext.2 b hb
theorem PI.base {X : Cx} {ρ : Map} {h : Heap} {w : World} (p : PI X ρ h w) {S : Nat → Prop} {Fo : Nat → List Value} (g : GhW X ρ h w S Fo) (ro : Option Nat) (hid : List Nat) (gx : List Value) (gv : List AV) (hk : VRs ρ gv gx) {F : Nat → List Value} (hF : ∀ (b j : Nat) (x : Value), (ρ.F b)[j]? = some x → (F b)[j]? = some x) (hz : FzW F w) (hsep : ∀ i B N, ρ i = some (B, N) → F B = ρ.F B) (hS : ∀ b, S b → F b = ρ.F b) (hn : ∀ G, X.g = some G → ∀ b, b < G.n0 → F b = ρ.F b) :
  PI ⟨X.c, w, F, fun b => (∃ i N, ρ i = some (b, N)) ∨ S b, X.g, ro, hid, gv, gx⟩ ⟨ρ.m, F, ρ.V⟩ h w := by
 have hs : Sub ρ ⟨ρ.m, F, ρ.V⟩ := ⟨fun _ _ e => e, hF, fun _ _ _ e => e⟩
 refine ⟨⟨p.hr.lt, fun i B N e q => (p.hr.ok i B N e q).mono hs, p.hr.inj, p.hr.gl, hz, fun i B N e q => ?_, fun i t z n l q => (p.hr.av i t z n l q).mono hs⟩, p.wf, p.fr, p.vf, p.vu, ⟨Same.refl w, fun _ _ => rfl⟩, fun i B N e hsh => hsh.2 (.inl ⟨i, N, e⟩), fun _ _ _ e => e, fun _ _ => rfl, hk.mono hs, fun G hG t z n l e => ?_⟩
 ·rcases p.hr.sep i B N e q with a | ⟨r, a⟩
  ·exact .inl ((hsep i B N e).trans a)
  ·exact .inr ⟨r, a⟩
 ·obtain ⟨s1, s2, s3, s4, s5, s6, s7, s8⟩ := g G hG t z n l e
  exact ⟨S, Fo, s1, s2, s3, ⟨fun b q => (q.elim (hS b) (hn G hG b)).trans (s4.1 b q), fun b i x e => hF b i x (s4.2 b i x e)⟩, s5, s6, s7, (fun b q hsh => hsh.2 (.inr q)), s8.2⟩
theorem PI.rebase {X : Cx} {ρ : Map} {h : Heap} {w : World} (p : PI X ρ h w) {S : Nat → Prop} (hS : ∀ b, S b → ¬ X.shut b) {ro : Option Nat} {hid : List Nat} {gx : List Value} {gv : List AV} {F : Nat → List Value} (hF : ∀ (b j : Nat) (x : Value), (ρ.F b)[j]? = some x → (F b)[j]? = some x) (hold : ∀ b, X.shut b → F b = ρ.F b) {ρ' : Map} {h' : Heap} {w' : World}
  (q : PI ⟨X.c, w, F, fun b => (∃ i N, ρ i = some (b, N)) ∨ S b, X.g, ro, hid, gv, gx⟩ ρ' h' w') (hk : VRs ρ' X.gv X.gx) : PI X ρ' h' w' := by
 have key : ∀ b, X.shut b → Cx.shut ⟨X.c, w, F, fun b => (∃ i N, ρ i = some (b, N)) ∨ S b, X.g, ro, hid, gv, gx⟩ b := fun b hb =>
  ⟨Nat.lt_of_lt_of_le hb.1 p.ext.1.size, fun a => a.elim (fun ⟨i, N, e⟩ => p.mine i b N e hb) (fun a => hS b a hb)⟩
 refine ⟨q.hr, q.wf, q.fr, q.vf, q.vu, ⟨p.ext.1.trans q.ext.1, fun b hb => (q.ext.2 b (key b hb)).trans (p.ext.2 b hb)⟩, fun i B N e hb => q.mine i B N e (key B hb), fun b j x e => q.sub b j x (hF b j x (p.sub b j x e)), fun b hb => ((q.old b (key b hb)).trans (hold b hb)).trans (p.old b hb), hk, fun G hG t z n l e => ?_⟩
 obtain ⟨S', Fo, s1, s2, s3, s4, s5, s6, s7, s8⟩ := q.gh G hG t z n l e
 exact ⟨S', Fo, s1, s2, s3, s4, s5, s6, s7, (fun b a hb => s8.1 b a (key b hb)), s8.2⟩
def ChgE (X : Cx) (h h' : Heap) : Prop := ∀ ρ w, PI X ρ h w → ∃ ρ', PI X ρ' h' w
theorem ChgE.of {X : Cx} {h h' : Heap} (H : Chg X 0 none [] h [] h' []) : ChgE X h h' := fun ρ w p => by
 obtain ⟨ρ', e', _, p', _⟩ := H X.ro ρ w .leaf ⟨#[], X.hid.map colD⟩ rfl p ⟨rfl, fun t => by
  rw [get_leaf]
  have : (#[] : Array Value).getD t undef = undef := by simp
  rw [this]; exact und_ok ρ⟩ (fun t v e => by cases e) ⟨[], rfl, rfl⟩
 exact ⟨ρ', p'⟩
theorem ChgE.cut {X : Cx} {h : Heap} {N : Nat} (bs : List AB) (hN : bs.length = N) (hg : ∀ i r, X.c.g0.get i ≠ .gl r) (hn : Nat.ble N h.nxt = true) (hb : getsP h bs 0) (hbl : lowsP N bs) (hG : lowsB N X.gv = true := by rfl) (hz : X.g = none ∨ Nat.ble 2 N = true := by first | exact .inl rfl | exact .inr rfl) : ChgE X h (hq N bs) := by
 subst hN
 exact ChgE.of (Chg.cut bs hg trivial rfl hn hb hbl rfl rfl hG hz)
structure KIt (c : Ctx) (g : FuncId) (cap : List AV) (items : List (List AV)) : Prop where
 fn : ∃ fn, c.P.funcs[g]? = some fn ∧ fn.body.isSome = true
 run : ∀ (G : Gho c.P) (w : World) (C : List Value) (S : Nat → Prop) (F : Nat → List Value), G.items = items → G.n0 = w.heap.size → FzW F w → VRs (fzm F) cap C → S G.blk → G.J 0 S F w → (∀ b, S b → b < w.heap.size) →
  ∃ nx w1, (callFunc g (Value.func (.yield G.blk) #[] #[] :: C).toArray).run c.P w = .ok nx w1 ∧ NextOk c.P (fun z w' => Same w w' ∧ (∀ b, b < w.heap.size → ¬ S b → w'.heap[b]? = w.heap[b]?) ∧
   ∃ k S' F', (k = items.length ∨ k = items.length + 1) ∧ G.J k S' F' w') nx w1
def FinY (c : Ctx) (res : List ResultVar) (N : Nat) : Post := fun x s => (x = .normal ∨ x = .ret) ∧ ∃ h' vs, leave s.h s.m = some h' ∧ resA c h' s.e res = some vs ∧ ∃ t z n l, h'.get 0 = .arr t z n l ∧ (z = N ∨ z = N + 1)
theorem Go.retY {X : Cx} {sz : Nat} {rd : Option Nat} {k : List It} {L : List (Nat × AV)} {h : Heap} {m : List Nat} {c : Ctx} {res : List ResultVar} {vs : List AV} {N t z n : Nat} {l : List AV} {h' : Heap} (hl : leave h m = some h') (hr : resL L res = some vs) (h0 : h'.get 0 = .arr t z n l) (ht : z = N ∨ z = N + 1) : Go X sz rd (.code .ret :: k) L h m (FinY c res N) :=
 Go.ret fun e he => ⟨.inr rfl, h', vs, hl, resL_ok he hr, t, z, n, l, h0, ht⟩
theorem Go.endY {X : Cx} {sz : Nat} {rd : Option Nat} {L : List (Nat × AV)} {h : Heap} {m : List Nat} {c : Ctx} {res : List ResultVar} {vs : List AV} {N t z n : Nat} {l : List AV} {h' : Heap} (hl : leave h m = some h') (hr : resL L res = some vs) (h0 : h'.get 0 = .arr t z n l) (ht : z = N ∨ z = N + 1) : Go X sz rd [] L h m (FinY c res N) :=
 Go.nil fun e he => ⟨.inl rfl, h', vs, hl, resL_ok he hr, t, z, n, l, h0, ht⟩
theorem KIt.of {c : Ctx} (k : CtxOk c) (hg0 : ∀ i r, c.g0.get i ≠ .gl r) {f : FuncId} {fn : Func} {body : Code} (hf : c.P.funcs[f]? = some fn) (hb : fn.body = some body) {cap : List AV} {items : List (List AV)} (hlen : Nat.ble (cap.length + 1) fn.ntmps = true) 
  (H : ∀ w F opn (G : Gho c.P) gx, G.items = items → Go ⟨c, w, F, opn, some G, none, [], [], gx⟩ fn.ntmps none [.code body] (argsL (.fn (.yield 1) [] [] :: cap) 0) (hq 2 [.arr 0 0 0 [], .none]) [] (FinY c fn.results.toList items.length)) : KIt c f cap items := by
 refine ⟨⟨fn, hf, by rw [hb]; rfl⟩, fun G w C S F hit hn0 hfz hC hblk hJ hS => ?_⟩
 have hnm : fn.name ≠ "runtime.NumGoroutine" := by simpa using k.names f fn hf
 refine ⟨.enter f (Value.func (.yield G.blk) #[] #[] :: C).toArray, w, by simp [callFunc, hf, hnm, hb, Sem.run], ?_⟩
 refine callsIn_of_wp_marks hf hb trivial ?_
 let ρ : Map := ⟨fun i => if i = 1 then some (G.blk, 0) else none, F, fun i n => if i = 0 ∧ n = 0 then some (.slice none 0 0) else none⟩
 have r1 : ρ 1 = some (G.blk, 0) := rfl
 have r2 : ∀ {i B N}, ρ i = some (B, N) → i = 1 ∧ B = G.blk := fun {i B N} e => by
  by_cases hi : i = 1
  ·subst hi; rw [r1] at e; cases e; exact ⟨rfl, rfl⟩
  ·have : ρ i = none := if_neg hi
   rw [this] at e; cases e
 have g0 : (hq 2 [.arr 0 0 0 [], .none]).get 0 = .arr 0 0 0 [] := rfl
 have gN : ∀ i, i ≠ 0 → (hq 2 [.arr 0 0 0 [], .none]).get i = .none := fun i hi => by
  rw [hq_get]
  match i, hi with
  | 1, _ => rfl
  | i + 2, _ => simp
 have nok : ∀ {i B N}, ρ i = some (B, N) → ¬ (hq 2 [.arr 0 0 0 [], .none]).ok i := fun {i B N} e o => by
  obtain ⟨rfl, _⟩ := r2 e
  unfold Heap.ok at o; rw [gN 1 (by decide)] at o; exact o
 have hA : VRs ρ (.fn (.yield 1) [] [] :: cap) (Value.func (.yield G.blk) #[] #[] :: C) := by
  simp only [VRs]
  refine ⟨_, _, ?_, VRs.mono (ρ := fzm F) (σ := ρ) ⟨fun _ _ e => (by cases e), fun _ _ _ e => e, fun _ _ _ e => (by cases e)⟩ cap hC, rfl⟩
  simp only [VR, FR, VRs]
  exact ⟨_, [], [], ⟨_, _, r1, rfl⟩, rfl, rfl, rfl⟩
 have hpi : PI ⟨c, w, F, S, some G, none, [], [], []⟩ ρ (hq 2 [.arr 0 0 0 [], .none]) w := by
  refine ⟨⟨fun i B N e => ?_, fun i B N e q => absurd q (nok e), fun i j B N M hij e1 e2 k1 k2 => absurd k1 (nok e1), fun i r e => ?_, hfz, fun i B N e q => absurd q (nok e), fun i t z n l e => ?_⟩, ⟨fun i hi => gN i (by have hi : 2 ≤ i := hi; omega), fun i r q e => ?_, fun i r q t e => ?_, fun q _ => get_leaf none q⟩, ⟨fun i hi => if_neg (by have hi : 2 ≤ i := hi; omega), fun i r e => absurd e (hg0 i r)⟩, fun i hi n => if_neg (by have hi : 2 ≤ i := hi; omega), fun i t z n l e m hm => ?_, ⟨Same.refl w, fun _ _ => rfl⟩, fun i B N e hs => ?_, fun _ _ _ e => e, fun _ _ => rfl, (by simp only [VRs]), fun G' hG t z n l e => ?_⟩
  ·obtain ⟨_, rfl⟩ := r2 e; exact hS _ hblk
  ·by_cases hi : i = 0
   ·subst hi; rw [g0] at e; cases e
   ·rw [gN i hi] at e; cases e
  ·by_cases hi : i = 0
   ·subst hi; rw [g0] at e; cases e
    exact ⟨rfl, .inl ⟨rfl, _, rfl⟩⟩
   ·rw [gN i hi] at e; cases e
  ·by_cases hi : i = 0
   ·subst hi; rw [g0] at e; cases e
   ·rw [gN i hi] at e; cases e
  ·by_cases hi : i = 0
   ·subst hi; rw [g0] at e; cases e
   ·rw [gN i hi] at e; cases e
  ·by_cases hi : i = 0
   ·subst hi; rw [g0] at e; cases e
    exact if_neg (fun a => by omega)
   ·rw [gN i hi] at e; cases e
  ·obtain ⟨_, rfl⟩ := r2 e; exact hs.2 hblk
  ·cases hG
   rw [g0] at e; cases e
   exact ⟨S, F, hJ, hS, fun i B N e q => absurd q (nok e), ⟨fun _ _ => rfl, fun _ _ _ e => e⟩, by omega, hblk, ⟨0, r1⟩, (fun b q hs => hs.2 q), _, rfl⟩
 have h := (H w F S G [] hit).run (T.put und (.fn (.yield 1) [] [] :: cap) (env0 und fn.ntmps) 0) (argsL_has _ _ 0)
 have ht : Tri ⟨c, w, F, S, some G, none, [], [], []⟩ fn.ntmps none body ⟨T.put und (.fn (.yield 1) [] [] :: cap) (env0 und fn.ntmps) 0, hq 2 [.arr 0 0 0 [], .none], []⟩ (FinY c fn.results.toList items.length) := h
 refine ht none ρ w _ _ rfl hpi (args_er hA (bleT hlen)) ⟨[], rfl, rfl⟩ fun x s' a' w' ρ' ⟨hx, h', vs, q1, q2, t, z, n, l, q3, q4⟩ g1 g2 g3 g4 => ?_
 have hfin : LeavesInM Fence.wide 0 c.P fn a'.tmps (EndR fun z w' => Same w w' ∧ (∀ b, b < w.heap.size → ¬ S b → w'.heap[b]? = w.heap[b]?) ∧ ∃ k S' F', (k = items.length ∨ k = items.length + 1) ∧ G.J k S' F' w') a'.defers .returning w' := by
  refine leave_ok g2.hr g2.wf (g4.nil rfl) q1 fun w2 gg => ?_
  have g5 := g2.good gg (ArrKeep.leave q1)
  obtain ⟨z', z1, z2⟩ := results_ok k g5.hr g3 q2
  obtain ⟨S', F', s1, _⟩ := g5.gh G rfl t z n l q3
  exact ⟨z', z1, g5.ext.1, fun b hb hs => g5.ext.2 b ⟨hb, hs⟩, z, S', F', q4, s1⟩
 rcases hx with rfl | rfl
 ·exact hfin
 ·exact hfin
section
variable {X : Cx} {tb : List (Nat × TE)} (E : Env X.c tb) {sz : Nat} {rd : Option Nat} {all : Array Oper} {o : Oper} {rest : List Oper} {k : List It} {L : List (Nat × AV)} {h : Heap} {m : List Nat} {Q : Post}
include E
theorem Ops.yieldJ {G : Gho X.c.P} {d t z : Nat} {cl : Call} {f : Operand} {vs : List AV} (hw : Want all L o true) (ho : o.op = .call cl) (hc : cl.callee = .value f) (hfv : evL L f = some (.fn (.yield 1) [] [])) (hv : evsL L cl.args.toList = some vs) (hdt : datsB vs = true) (hX : X.g = some G) (h0 : h.get 0 = .arr t z 0 []) (hit : G.items[z]? = some vs) (hd : o.dst = some d) (hs : Nat.ble (d + 1) sz = true)
  (n1 : Ops X sz rd all rest k ((d, .bool true) :: L) (h.put 0 (.arr t (z + 1) 0 [])) m Q) (n2 : Ops X sz rd all rest k ((d, .bool false) :: L) (h.put 0 (.arr t (G.items.length + 1) 0 [])) m Q) : Ops X sz rd all (o :: rest) k L h m Q := ⟨fun e0 he => by
 have _ := E
 refine TriOps.cons (hw e0 he) (K := fun s' => RunK X sz rd k Q .normal s') ?_
 intro ro ρ w a next Q' h1 p h3 h4 h5
 refine ⟨fun _ _ => trivial, ?_⟩
 rw [show (wideR ro).round = ro from rfl, Oper.semAt_eq ro a.eval o (by rw [ho]; intro d q; cases q)]
 obtain ⟨S, Fo, s1, s2, s3, s4, s5, s6, ⟨N1, s7⟩, s8⟩ := p.gh G hX t z 0 [] h0
 have hfv' := ev_ok h3 f
 rw [he.ev hfv] at hfv'
 simp only [VR, VRs, FR] at hfv'
 obtain ⟨f', F, C, ⟨B, N, hB, rfl⟩, rfl, rfl, e4⟩ := hfv'
 rw [s7] at hB; cases hB
 have hargs := evs_ok h3 cl.args.toList
 rw [he.evs hv] at hargs
 obtain ⟨nx, w1, q1, q2⟩ := G.step z S w vs _ Fo ρ.F hit s1 s5 s2 s4.1 s4.2 p.hr.fz (dats_ok vs hdt hargs)
 have hrun : (execOp a.eval o).run X.c.P w = .ok nx w1 := by
  rw [← q1]
  simp only [execOp, ho, resolve, hc, e4, Deferred.ofValue, Sem.run_bind, Sem.run_pure, Result.andThen_ok, invoke]
  congr 2
  apply Array.ext'; simp
 rw [hrun]
 refine uponIn_of_next q2 fun zz w' ⟨r1, r2, r3, S', r4, r5, r6⟩ => ?_
 have hok0 : ∀ {b : AB}, h.get 0 = b → b.isArr = true → h.ok 0 := fun {b} e hb => by unfold Heap.ok; rw [e]; cases b <;> first | trivial | cases hb
 have ok0 := hok0 h0 rfl
 have fin : ∀ (T : Nat) (bb : Bool), zz = .bool bb → G.J T S' ρ.F w' → Ops X sz rd all rest k ((d, .bool bb) :: L) (h.put 0 (.arr t T 0 [])) m Q → next (a.put o.dst zz) w' := fun T bb hzz hJ hops => by
  have hg : ∀ j, j ≠ 0 → (h.put 0 (.arr t T 0 [])).get j = h.get j := fun j q => by rw [Heap.get_put, if_neg q]
  have hn : (h.put 0 (.arr t T 0 [])).get 0 = .arr t T 0 [] := by rw [Heap.get_put, if_pos rfl]
  have hoo : ∀ j, j ≠ 0 → ((h.put 0 (.arr t T 0 [])).ok j ↔ h.ok j) := fun j q => Heap.ok_same (hg j q) (fun _ _ _ _ => rfl)
  have hokall : ∀ j, (h.put 0 (.arr t T 0 [])).ok j → h.ok j := fun j q => by
   by_cases hj : j = 0
   ·subst hj; exact ok0
   ·exact (hoo j hj).1 q
  have stay : ∀ {i B N}, ρ i = some (B, N) → h.ok i → w'.heap[B]? = w.heap[B]? := fun {i B N} e o => r2 B (p.hr.lt i B N e) (s3 i B N e o).1
  have hpi : PI X ρ (h.put 0 (.arr t T 0 [])) w' := by
   refine ⟨⟨fun i B N e => Nat.lt_of_lt_of_le (p.hr.lt i B N e) r1.size, fun i B N e q => ?_, fun i j B N M hij e1 e2 k1 k2 => ?_, fun i r e => ?_, r3, fun i B N e q => ?_, fun i t' z' n' l' e => ?_⟩, ⟨fun i hi => ?_, fun i r q e1 e2 => ?_, fun i r q t' e1 e2 e3 => ?_, fun q hq => p.wf.tipr q hq⟩, ⟨fun i hi => p.fr.1 i hi, fun i r q => ?_⟩, fun i hi n => p.vf i hi n, fun i t' z' n' l' e m' hm' => ?_, ⟨p.ext.1.trans r1, fun b hb => ?_⟩, p.mine, p.sub, p.old, p.keep, fun G' hG t' z' n' l' e => ?_⟩
   ·have hb := (p.hr.ok i B N e (hokall i q)).block (stay e (hokall i q))
    by_cases hi : i = 0
    ·subst hi; rw [hn]; rw [h0] at hb
     have hb : RowOk ρ.d ⟨t, 0 * z, .leaf, [], none⟩ B N w' := hb
     show RowOk ρ.d ⟨t, 0 * T, .leaf, [], none⟩ B N w'
     rw [Nat.zero_mul] at hb ⊢; exact hb
    ·rw [hg i hi]; exact hb
   ·obtain ⟨r, s, qq, x, y, u⟩ := p.hr.inj i j B N M hij e1 e2 (hokall i k1) (hokall j k2)
    have hi : i ≠ 0 := fun e => by subst e; rw [h0] at x; cases x
    have hj : j ≠ 0 := fun e => by subst e; rw [h0] at y; cases y
    exact ⟨r, s, qq, by rw [hg i hi]; exact x, by rw [hg j hj]; exact y, u⟩
   ·by_cases hi : i = 0
    ·subst hi; rw [hn] at e; cases e
    ·rw [hg i hi] at e; exact p.hr.gl i r e
   ·rcases p.hr.sep i B N e (hokall i q) with x | ⟨r, x⟩
    ·exact .inl x
    ·exact .inr ⟨r, by rw [hg i (fun e => by subst e; rw [h0] at x; cases x)]; exact x⟩
   ·by_cases hi : i = 0
    ·subst hi; rw [hn] at e; cases e; exact ⟨by simp, .inl ⟨rfl, s8.2⟩⟩
    ·rw [hg i hi] at e; exact p.hr.av i t' z' n' l' e
   ·have hi' : h.nxt ≤ i := hi
    by_cases hi0 : i = 0
    ·subst hi0; rw [p.wf.fresh 0 hi'] at h0; cases h0
    ·rw [hg i hi0]; exact p.wf.fresh i hi'
   ·by_cases hi : i = 0
    ·subst hi; rw [hn] at e1; cases e1
    ·rw [hg i hi] at e1; exact p.wf.root i r q e1 e2
   ·by_cases hi : i = 0
    ·subst hi; rw [hn] at e1; cases e1
    ·rw [hg i hi] at e1
     obtain ⟨s, x, y⟩ := p.wf.tip i r q t' e1 e2 e3
     exact ⟨s, by rw [hg t' (fun e => by subst e; rw [h0] at x; cases x)]; exact x, y⟩
   ·have := p.fr.2 i r q
    rw [hg i (fun e => by subst e; rw [h0] at this; cases this)]; exact this
   ·by_cases hi : i = 0
    ·subst hi; rw [hn] at e; cases e; exact p.vu 0 t z 0 [] h0 m' hm'
    ·rw [hg i hi] at e; exact p.vu i t' z' n' l' e m' hm'
   ·rw [r2 b (Nat.lt_of_lt_of_le hb.1 p.ext.1.size) (fun q => s8.1 b q hb)]; exact p.ext.2 b hb
   ·rw [hX] at hG; cases hG
    rw [hn] at e; cases e
    refine ⟨S', ρ.F, hJ, fun b q => (r5 b q).1, fun i B N e q => ?_, ⟨fun b q => rfl, fun _ _ _ e => e⟩, Nat.le_trans s5 r1.size, r4 _ s6, ⟨N1, s7⟩, fun b q hb => ?_, s8.2⟩
    ·obtain ⟨a1, a2⟩ := s3 i B N e (hokall i q)
     refine ⟨fun q' => ?_, a2⟩
     rcases (r5 B q').2 with x | x
     ·exact a1 x
     ·have := p.hr.lt i B N e; omega
    ·rcases (r5 b q).2 with x | x
     ·exact s8.1 b x hb
     ·have := Nat.lt_of_lt_of_le hb.1 p.ext.1.size; omega
  subst hzz
  exact h5 (.bool bb) ⟨e0, _, m⟩ (.bool bb) w' ρ ⟨e0.set und d (.bool bb), by rw [hd]; exact setD_some hs, hops.run _ (he.set d _)⟩ h1 hpi h3 h4 (by simp only [VR])
 rcases r6 with ⟨hz, hJ⟩ | ⟨hz, hJ⟩
 ·exact fin (z + 1) true hz hJ n1
 ·exact fin _ false hz hJ n2⟩
end
end Go.Px
end
section
namespace Go.Px
theorem PI.leg {X : Cx} {ρ : Map} {h : Heap} {w : World} (p : PI X ρ h w) {S : Nat → Prop} (hS : ∀ b, S b → ¬ X.shut b) {ro : Option Nat} {hid : List Nat} {F : Nat → List Value} (hF : ∀ (b j : Nat) (x : Value), (ρ.F b)[j]? = some x → (F b)[j]? = some x) (hold : ∀ b, X.shut b → F b = ρ.F b) {ρ' : Map} {h' : Heap} {w' : World}
  (q : PI ⟨X.c, w, F, fun b => (∃ i N, ρ i = some (b, N)) ∨ S b, X.g, ro, hid, X.gv, X.gx⟩ ρ' h' w') :
  PI X ρ' h' w' ∧ Same w w' ∧ (∀ b, b < w.heap.size → ¬ ((∃ i N, ρ i = some (b, N)) ∨ S b) → w'.heap[b]? = w.heap[b]? ∧ ρ'.F b = F b ∧ ∀ i N, ρ' i ≠ some (b, N)) ∧ (∀ (b j : Nat) (x : Value), (F b)[j]? = some x → (ρ'.F b)[j]? = some x) ∧
   ∃ S' Fo', GhW X ρ' h' w' S' Fo' ∧ (∀ b, S' b → b < w'.heap.size) ∧ (∀ b, S' b → ¬ X.shut b) ∧ ∀ b, b < w.heap.size → ¬ ((∃ i N, ρ i = some (b, N)) ∨ S b) → ¬ S' b := by
 have p' := p.rebase hS hF hold q q.keep
 obtain ⟨S', Fo', s1, s2, s3⟩ := q.gh.wit
 refine ⟨p', q.ext.1, fun b hb hn => ⟨q.ext.2 b ⟨hb, hn⟩, q.old b ⟨hb, hn⟩, fun i N e => q.mine i b N e ⟨hb, hn⟩⟩, q.sub, S', Fo', fun G hG t z n l e => ?_, s2, fun b a hb => ?_, fun b hb hn a => s3 b a ⟨hb, hn⟩⟩
 ·obtain ⟨a1, a2, a3, a4, a5, a6, a7, a8, a9⟩ := s1 G hG t z n l e
  refine ⟨a1, a2, a3, a4, a5, a6, a7, fun b a hb => a8 b a ?_, a9⟩
  exact ⟨Nat.lt_of_lt_of_le hb.1 p.ext.1.size, fun y => y.elim (fun ⟨i, N, e⟩ => p.mine i b N e hb) (fun a => hS b a hb)⟩
 ·exact s3 b a ⟨Nat.lt_of_lt_of_le hb.1 p.ext.1.size, fun y => y.elim (fun ⟨i, N, e⟩ => p.mine i b N e hb) (fun a => hS b a hb)⟩
structure Base where
 w0 : World
 F0 : Nat → List Value
 opn : Nat → Prop
 ro : Option Nat
 gx : List Value
def XH (X : Cx) (L : List (Nat × AV)) (n : Nat) (m : List Nat) (b : Base) : Cx := ⟨X.c, b.w0, b.F0, b.opn, X.g, b.ro, [], held L (n :: m) none ++ X.gv, b.gx⟩
def QB (X : Cx) (sz : Nat) (k : List It) (L : List (Nat × AV)) (n : Nat) (m : List Nat) (Q : Post) (h' : Heap) (b : Base) : Post := fun x s =>
 match x with
 | .normal => ChgE (XH X L n m b) s.h h'
 | x => ∀ e, Has e L → RunK X sz none k Q x ⟨e, s.h, n :: m⟩
def QA (X : Cx) (sz : Nat) (k : List It) (L : List (Nat × AV)) (n : Nat) (m : List Nat) (Q : Post) (h' : Heap) (body : Code) : Post := fun x s =>
 x = .normal ∧ ∀ b, RunK (XH X L n m b) sz none [.code body] (QB X sz k L n m Q h' b) .normal s
section
variable {X : Cx} {sz : Nat} {k : List It} {L L' : List (Nat × AV)} {h h' : Heap} {n : Nat} {m m' : List Nat} {Q : Post}
theorem Go.bodyK {X' : Cx} {body : Code} (H : ∀ b, Go (XH X L n m b) sz none [.code body] L' h m' (QB X sz k L n m Q h' b)) : Go X' sz none [] L' h m' (QA X sz k L n m Q h' body) :=
 Go.nil fun e he => ⟨rfl, fun b => (H b).run e he⟩
theorem Go.nextK {b : Base} (H : ChgE (XH X L n m b) h h') : Go (XH X L n m b) sz none [] L' h m' (QB X sz k L n m Q h' b) :=
 Go.nil fun e he => H
theorem Go.stopX {b : Base} {id : Nat} {k' k2 : List It} (hx : xit id k' = none) (h2 : xit id k = some k2) (H : Go X sz none k2 L h (n :: m) Q) : Go (XH X L n m b) sz none (.code (.exit id) :: k') L' h m' (QB X sz k L n m Q h' b) := ⟨fun e he => Tri.exit (by
 have key : ∀ {k' : List It}, xit id k' = none → RunK (XH X L n m b) sz none k' (QB X sz k L n m Q h' b) (.exit id) ⟨e, h, m'⟩ := by
  intro k'
  induction k' with
  | nil => intro _; exact fun e' he' => xit_run h2 (H.run e' he')
  | cons x k' ih =>
   intro q
   cases x with
   | code c => exact ih q
   | lp c => exact ih q
   | blk i =>
    unfold xit at q
    rw [show RunK (XH X L n m b) sz none (.blk i :: k') (QB X sz k L n m Q h' b) (.exit id) ⟨e, h, m'⟩ = (match Nat.beq id i with | true => RunK (XH X L n m b) sz none k' (QB X sz k L n m Q h' b) .normal ⟨e, h, m'⟩ | false => RunK (XH X L n m b) sz none k' (QB X sz k L n m Q h' b) (.exit id) ⟨e, h, m'⟩) from rfl]
    cases hi : Nat.beq id i with
    | true => rw [hi] at q; cases q
    | false => rw [hi] at q; exact ih q
 exact key hx)⟩
end
theorem Go.rangeK {X : Cx} {tb : List (Nat × TE)} (E : Env X.c tb) {sz : Nat} {k : List It} {L : List (Nat × AV)} {h : Heap} {m : List Nat} {Q : Post} (n : Nat) {f : Operand} {ps : Array Tmp} {assign body : Code} {g : FuncId} {cap : List AV} {items : List (List AV)} (hn : h.nxt = n) (hfv : evL L f = some (.fn (.func g) [] cap)) (hdat : datsB cap = true) (hk : KIt X.c g cap items) (hon : onceB L = true)
  (H : Nat → Heap) (h0 : ∀ b, ChgE (XH X L n m b) (newAt n h (.dfr true)) (H 0)) (hps : ∀ (j : Nat) (v : List AV), items[j]? = some v → Nat.beq ps.toList.length v.length = true) (hps2 : (ps.toList.all fun p => Nat.ble (p + 1) sz) = true)
  (hbody : ∀ (j : Nat) (v : List AV), items[j]? = some v → ∀ b, Go (XH X L n m b) sz none [.code assign] (setL ps.toList v L) (H j) [] (QA X sz k L n m Q (H (j + 1)) body))
  (nx : Go X sz none k L (H items.length) (n :: m) Q) (hro : X.ro = none := by rfl) (hgn : X.g = none ∨ ∃ t z q l, h.get 0 = .arr t z q l := by first | exact .inl rfl | exact .inr ⟨_, _, _, _, rfl⟩) :
  Go X sz none (.code (.rangeFunc f ps assign body) :: k) L h m Q := ⟨fun e0 he => by
 subst hn
 intro ro ρ w a Q' h1 p h3 h4 h5
 have hro' : ro = none := (show ro = X.ro from h1).trans hro
 subst hro'
 refine wpIn_rangeFunc fun fn' _ => ?_
 have g1 := Good.newBlock p.hr p.wf (p.fr.1 _ (Nat.le_refl _)) (.dfr true) (.deferred (some [])) 0 (fun r q => by cases q) (by simp only [ABR]; exact World.alloc_heap_new _ _)
 have p1 := p.good g1 (ArrKeep.new rfl)
 have hs1 : Sub ρ (upd ρ h.nxt (w.heap.size, 0)) := g1.sub
 generalize hwA : w.alloc (.deferred (some [])) = wA at *
 have hsA : wA.heap.size = w.heap.size + 1 := by rw [← hwA]; simp [World.size_alloc]
 generalize hρ1 : upd ρ h.nxt (w.heap.size, 0) = ρ1 at *
 have hm1 : MRX X ρ1 (h.nxt :: m) ([{ target := .collected w.heap.size, args := #[] }] ++ a.defers) :=
  MRX.push (m := [h.nxt]) (D := [{ target := .collected w.heap.size, args := #[] }]) ⟨w.heap.size, 0, [], (by rw [← hρ1]; exact upd_same _ _ _), rfl, rfl⟩ (h4.mono hs1)
 obtain ⟨gx0, b1, b2⟩ := held_in (X := X) (rd := none) (L := L) (h1.mono hs1) (h3.mono hs1) he hon hm1
 have hB : (wA.alloc (.loop { state := .ready, pending := none, fn := fn', tmps := a.tmps, params := ps, assign, body, defers := w.heap.size })).heap.size = wA.heap.size + 1 := by simp [World.size_alloc]
 have hBl : (wA.alloc (.loop { state := .ready, pending := none, fn := fn', tmps := a.tmps, params := ps, assign, body, defers := w.heap.size })).heap[wA.heap.size]? = some (.loop { state := .ready, pending := none, fn := fn', tmps := a.tmps, params := ps, assign, body, defers := w.heap.size }) := World.alloc_heap_new _ _
 have hBo : ∀ b, b < wA.heap.size → (wA.alloc (.loop { state := .ready, pending := none, fn := fn', tmps := a.tmps, params := ps, assign, body, defers := w.heap.size })).heap[b]? = wA.heap[b]? := fun b hb => by
  show (wA.heap.push _)[b]? = _
  rw [Array.getElem?_push, if_neg (by omega)]
 have hBs : Same wA (wA.alloc (.loop { state := .ready, pending := none, fn := fn', tmps := a.tmps, params := ps, assign, body, defers := w.heap.size })) := ⟨rfl, rfl, rfl, by omega⟩
 have hent : (Instr.enterLoop fn' a.tmps ps assign body none).run X.c.P w = .ok (wA.heap.size, [{ target := .collected w.heap.size, args := #[] }]) (wA.alloc (.loop { state := .ready, pending := none, fn := fn', tmps := a.tmps, params := ps, assign, body, defers := w.heap.size })) := by
  rw [run_enterLoop_outer, hwA, hsA]
 generalize wA.alloc (.loop { state := .ready, pending := none, fn := fn', tmps := a.tmps, params := ps, assign, body, defers := w.heap.size }) = wB at *
 generalize hB' : wA.heap.size = B at *
 have hgn' : ∀ G, X.g = some G → G.n0 ≤ w.heap.size := fun G hG => by
  rcases hgn with q | ⟨t, z, q, l, e⟩
  ·rw [q] at hG; cases hG
  ·obtain ⟨_, _, _, _, _, _, a, _⟩ := p.gh G hG t z q l e; exact a
 have hw0 : X.w0.heap.size ≤ w.heap.size := p.ext.1.size
 obtain ⟨S0, Fo0, s1, s2, s3⟩ := p1.gh.wit
 obtain ⟨p2, gw⟩ := p1.world hBs (U := fun _ => True) (fun b hb _ => hBo b (by omega)) (fun _ _ _ _ => trivial) (fun _ _ => trivial) (fun _ _ => trivial) s1 (fun _ _ => trivial) (fun _ _ _ _ => trivial)
 have hX : PI ⟨X.c, X.w0, X.F0, X.opn, X.g, none, [], held L (h.nxt :: m) none ++ X.gv, gx0 ++ X.gx⟩ ρ1 (h.new (.dfr true)) wB := p2.more b1
 have lt1 : ∀ i b N, ρ1 i = some (b, N) → b < B := fun i b N e => by have := p1.hr.lt i b N e; omega
 have hb0 : PI (XH X L h.nxt m ⟨wB, ρ1.F, fun b => (∃ i N, ρ1 i = some (b, N)) ∨ S0 b, none, gx0 ++ X.gx⟩) ρ1 (h.new (.dfr true)) wB :=
  hX.base (S := S0) gw none [] _ _ hX.keep (F := ρ1.F) (fun _ _ _ e => e) hX.hr.fz (fun _ _ _ _ => rfl) (fun _ _ => rfl) (fun _ _ _ _ => rfl)
 rw [new_at rfl] at hb0
 obtain ⟨ρ2, p3⟩ := h0 _ ρ1 wB hb0
 obtain ⟨p4, _, fr0, sF0, S2, Fo2, gw2, lt2, nsh2, out2⟩ := hX.leg (S := S0) (fun b q => s3 b q) (F := ρ1.F) (fun _ _ _ e => e) (fun _ _ => rfl) p3
 have hBnot : ¬ ((∃ i N, ρ1 i = some (B, N)) ∨ S0 B) := fun q => q.elim (fun ⟨i, N, e⟩ => Nat.lt_irrefl _ (lt1 i B N e)) fun q => by have := s2 B q; omega
 have hBlt : B < wB.heap.size := by omega
 obtain ⟨_, hBF, hBi⟩ := fr0 B hBlt hBnot
 have hBS := out2 B hBlt hBnot
 have hF1B : ρ1.F B = [] := Classical.byContradiction fun q => by have := p1.hr.F_lt q; omega
 rw [hF1B] at hBF
 let X' : Cx := ⟨X.c, X.w0, X.F0, X.opn, X.g, none, [], held L (h.nxt :: m) none ++ X.gv, gx0 ++ X.gx⟩
 let rec_ : LoopState → Option Ex → Obj := fun st pd => .loop { state := st, pending := pendOf pd, fn := fn', tmps := a.tmps, params := ps, assign, body, defers := w.heap.size }
 let J : Nat → (Nat → Prop) → (Nat → List Value) → World → Prop := fun j S Fo w' => ∃ (ρ' : Map) (T : Nat → Prop) (Ft : Nat → List Value) (hh : Heap) (st : LoopState) (pd : Option Ex),
  PI X' ρ' hh w' ∧ GhW X' ρ' hh w' T Ft ∧ (∀ b, T b → S b ∧ ¬ X'.shut b) ∧ (∀ i b N, ρ' i = some (b, N) → S b ∧ b ≠ B) ∧ (ρ'.F B = [] ∧ ∀ b, ¬ (S b ∨ b < wB.heap.size) → ρ'.F b = Fo b) ∧ (∀ (b i : Nat) (x : Value), (Fo b)[i]? = some x → (ρ'.F b)[i]? = some x) ∧
   S B ∧ ¬ T B ∧ B < w'.heap.size ∧ w'.heap[B]? = some (rec_ st pd) ∧ ((j ≤ items.length ∧ st = .ready ∧ pd = none ∧ hh = H j) ∨ (j = items.length + 1 ∧ st = .done ∧ ∃ x, pd = some x ∧ x ≠ .normal ∧ ∀ e, Has e L → RunK X sz none k Q x ⟨e, hh, h.nxt :: m⟩))
 have hstab : ∀ j S Fo w1 w2, J j S Fo w1 → Same w1 w2 → (∀ b, b < w1.heap.size → (S b ∨ b < wB.heap.size ∨ Fo b ≠ []) → w2.heap[b]? = w1.heap[b]?) → J j S Fo w2 := fun j S Fo w1 w2 ⟨ρ', T, Ft, hh, st, pd, j1, j2, j3, j4, j5, j6, j7, j8, j9, j10, j11⟩ hsm hun => by
  obtain ⟨q1, q2⟩ := j1.world hsm (U := fun b => S b ∨ b < wB.heap.size ∨ Fo b ≠ []) hun (fun i b N e => .inl (j4 i b N e).1) (fun b e => by
   by_cases q : S b ∨ b < wB.heap.size
   ·exact q.elim .inl fun q => .inr (.inl q)
   ·rw [j5.2 b q] at e; exact .inr (.inr e)) (fun b hb => .inr (.inl (by have hb : b < X.w0.heap.size := hb; omega))) j2 (fun b q => .inl (j3 b q).1) (fun G hG b hb => .inr (.inl (by have := hgn' G hG; omega)))
  exact ⟨ρ', T, Ft, hh, st, pd, q1, q2, j3, j4, j5, j6, j7, j8, Nat.lt_of_lt_of_le j9 hsm.size, (hun B j9 (.inl j7)).trans j10, j11⟩
 have hstep : ∀ j S w1 v V (Fo F' : Nat → List Value), items[j]? = some v → J j S Fo w1 → wB.heap.size ≤ w1.heap.size → (∀ b, S b → b < w1.heap.size) → (∀ b, S b ∨ b < wB.heap.size → F' b = Fo b) → (∀ (b i : Nat) (x : Value), (Fo b)[i]? = some x → (F' b)[i]? = some x) → FzW F' w1 → VRs (fzm F') v V →
   ∃ nx w2, (Instr.yield B V.toArray).run X.c.P w1 = .ok nx w2 ∧ NextOk X.c.P (fun z w' => Same w1 w' ∧ (∀ b, b < w1.heap.size → ¬ S b → w'.heap[b]? = w1.heap[b]?) ∧ FzW F' w' ∧
   ∃ S', (∀ b, S b → S' b) ∧ (∀ b, S' b → b < w'.heap.size ∧ (S b ∨ w1.heap.size ≤ b)) ∧ ((z = .bool true ∧ J (j + 1) S' F' w') ∨ (z = .bool false ∧ J (items.length + 1) S' F' w'))) nx w2 := fun j S w1 v V Fo F' hit ⟨ρ', T, Ft, hh, st, pd, j1, j2, j3, j4, j5, j6, j7, j8, j9, j10, j11⟩ hn0 hSlt hF' hFF' hfz hV => by
  have hjl : j < items.length := (List.getElem?_eq_some_iff.1 hit).1
  obtain ⟨_, rfl, rfl, rfl⟩ : j ≤ items.length ∧ st = .ready ∧ pd = none ∧ hh = H j := by
   rcases j11 with q | q
   ·exact q
   ·have := q.1; omega
  let F2 : Nat → List Value := fun b => @ite _ (S b ∨ b < wB.heap.size) (Classical.propDecidable _) (ρ'.F b) (F' b)
  have f1 : ∀ b, (S b ∨ b < wB.heap.size) → F2 b = ρ'.F b := fun b q => if_pos q
  have f2 : ∀ b, ¬ (S b ∨ b < wB.heap.size) → F2 b = F' b := fun b q => if_neg q
  have f3 : ∀ (b i : Nat) (x : Value), (ρ'.F b)[i]? = some x → (F2 b)[i]? = some x := fun b i x e => by
   by_cases q : S b ∨ b < wB.heap.size
   ·rw [f1 b q]; exact e
   ·rw [f2 b q]; rw [j5.2 b q] at e; exact hFF' b i x e
  have f4 : ∀ (b i : Nat) (x : Value), (F' b)[i]? = some x → (F2 b)[i]? = some x := fun b i x e => by
   by_cases q : S b ∨ b < wB.heap.size
   ·rw [f1 b q]; rw [hF' b q] at e; exact j6 b i x e
   ·rw [f2 b q]; exact e
  have f5 : FzW F2 w1 := fun b i x e => by
   by_cases q : S b ∨ b < wB.heap.size
   ·rw [f1 b q] at e; exact j1.hr.fz b i x e
   ·rw [f2 b q] at e; exact hfz b i x e
  have hsh : ∀ b, X'.shut b → F2 b = ρ'.F b := fun b q => f1 b (.inr (by have q : b < X.w0.heap.size := q.1; omega))
  have pa := j1.base j2 (some B) [] _ _ j1.keep (F := F2) f3 f5 (fun i b N e => f1 b (.inl (j4 i b N e).1)) (fun b q => f1 b (.inl (j3 b q).1)) (fun G hG b hb => f1 b (.inr (by have := hgn' G hG; omega)))
  have hlenV : V.length = v.length := hV.length.symm
  have hps' := beqT (hps j v hit)
  have hy := run_yield (P := X.c.P) (args := V.toArray) j10 (by simp only [List.size_toArray]; rw [hlenV, ← hps']; simp)
  refine ⟨_, w1, hy, ?_⟩
  refine roundIn_of_wpIn trivial ?_
  have hz : (ps.zip V.toArray).foldl (fun tmps (p : Tmp × Value) => tmps.setIfInBounds p.1 p.2) a.tmps = (ps.toList.zip V).foldl (fun tmps (p : Tmp × Value) => tmps.setIfInBounds p.1 p.2) a.tmps := by
   rw [← Array.foldl_toList]
   congr 1
   simp [Array.toList_zip]
  obtain ⟨v1, v2⟩ := VRs.split b1.length j1.keep
  obtain ⟨_, _, u3⟩ := b2 ρ' v1
  obtain ⟨e1, he1, er1⟩ := known_env (σ := ρ') (L := L) (tm := a.tmps) (sz := sz) h3.1 u3
  have hsF : Sub ρ' ⟨ρ'.m, F2, ρ'.V⟩ := ⟨fun _ _ e => e, f3, fun _ _ _ e => e⟩
  obtain ⟨e2, hpe⟩ := setPs_some (sz := sz) e1 (hps j v hit) hps2
  have hV2 : VRs ⟨ρ'.m, F2, ρ'.V⟩ v V := VRs.mono (ρ := fzm F') (σ := ⟨ρ'.m, F2, ρ'.V⟩) ⟨fun _ _ e => (by cases e), f4, fun _ _ _ e => (by cases e)⟩ v hV
  obtain ⟨_, her⟩ := setPs_ok hpe hV2 (er1.mono hsF)
  have hhas := setPs_has hpe he1
  have hA := (hbody j v hit ⟨w1, F2, fun b => (∃ i N, ρ' i = some (b, N)) ∨ T b, some B, gx0 ++ X.gx⟩).run e2 hhas
  have htA : Tri (XH X L h.nxt m ⟨w1, F2, fun b => (∃ i N, ρ' i = some (b, N)) ∨ T b, some B, gx0 ++ X.gx⟩) sz none assign ⟨e2, H j, []⟩ (QA X sz k L h.nxt m Q (H (j + 1)) body) := hA
  refine htA (some B) ⟨ρ'.m, F2, ρ'.V⟩ w1 _ _ rfl pa (by rw [hz]; exact her) ⟨[], rfl, rfl⟩ fun x s' a1 w2 σ1 ⟨hx, hrunB⟩ g1 g2 g3 g4 => ?_
  subst hx
  have hnotB : ¬ ((∃ i N, ρ' i = some (B, N)) ∨ T B) := fun q => q.elim (fun ⟨i, N, e⟩ => (j4 i B N e).2 rfl) j8
  obtain ⟨c1, c2, c3, c4, T1, Ft1, c5, c6, c7, c8⟩ := j1.leg (fun b q => (j3 b q).2) f3 hsh g2
  obtain ⟨d1, d2, d3⟩ := c3 B j9 hnotB
  have hF2B : F2 B = [] := by
   rw [f1 B (.inl j7)]; exact j5.1
  rw [hF2B] at d2
  rw [j10] at d1
  have hB2 : B < w2.heap.size := Nat.lt_of_lt_of_le j9 c2.size
  refine ⟨_, run_beginRound d1 rfl, ?_⟩
  have hput : ∀ (W : World) (o : Obj), Same W (W.putObj B o) := fun W o => ⟨rfl, rfl, rfl, by simp [World.putObj_size]⟩
  obtain ⟨p5, gw5⟩ := c1.world (hput w2 (rec_ .busy none)) (U := fun b => b ≠ B) (fun b _ q => World.putObj_heap_other q) (fun i b N e q => d3 i N (q ▸ e)) (fun b e q => e (q ▸ d2)) (fun b hb q => by have hb : b < X.w0.heap.size := hb; omega) c5 (fun b e q => c8 B j9 hnotB (q ▸ e)) (fun G hG b hb q => by have := hgn' G hG; omega)
  have pb := p5.base gw5 (some B) [] _ _ p5.keep (F := σ1.F) (fun _ _ _ e => e) p5.hr.fz (fun _ _ _ _ => rfl) (fun _ _ => rfl) (fun _ _ _ _ => rfl)
  have htB : Tri (XH X L h.nxt m ⟨w2.putObj B (rec_ .busy none), σ1.F, fun b => (∃ i N, σ1 i = some (b, N)) ∨ T1 b, some B, gx0 ++ X.gx⟩) sz none body s' (QB X sz k L h.nxt m Q (H (j + 1)) ⟨w2.putObj B (rec_ .busy none), σ1.F, fun b => (∃ i N, σ1 i = some (b, N)) ∨ T1 b, some B, gx0 ++ X.gx⟩) := hrunB _
  refine htB (some B) σ1 _ a1 _ rfl pb g3 g4 fun x s2 a2 w3 σ2 hQ k1 k2 k3 k4 => ?_
  have hB2' : B < (w2.putObj B (rec_ .busy none)).heap.size := by simp only [World.putObj_size]; exact hB2
  have hnotB2 : ¬ ((∃ i N, σ1 i = some (B, N)) ∨ T1 B) := fun q => q.elim (fun ⟨i, N, e⟩ => d3 i N e) (c8 B j9 hnotB)
  have fin : ∀ (st2 : LoopState) (pd2 : Option Ex) (bb : Bool) (σ3 : Map) (h3' : Heap), PI (XH X L h.nxt m ⟨w2.putObj B (rec_ .busy none), σ1.F, fun b => (∃ i N, σ1 i = some (b, N)) ∨ T1 b, some B, gx0 ++ X.gx⟩) σ3 h3' w3 →
    (∃ j', ((bb = true ∧ j' = j + 1) ∨ (bb = false ∧ j' = items.length + 1)) ∧ ((j' ≤ items.length ∧ st2 = .ready ∧ pd2 = none ∧ h3' = H j') ∨ (j' = items.length + 1 ∧ st2 = .done ∧ ∃ x, pd2 = some x ∧ x ≠ .normal ∧ ∀ e, Has e L → RunK X sz none k Q x ⟨e, h3', h.nxt :: m⟩))) →
    w3.heap[B]? = some (rec_ .busy none) ∧ (Same w1 (w3.putObj B (rec_ st2 pd2)) ∧ (∀ b, b < w1.heap.size → ¬ S b → (w3.putObj B (rec_ st2 pd2)).heap[b]? = w1.heap[b]?) ∧ FzW F' (w3.putObj B (rec_ st2 pd2)) ∧
     ∃ S', (∀ b, S b → S' b) ∧ (∀ b, S' b → b < (w3.putObj B (rec_ st2 pd2)).heap.size ∧ (S b ∨ w1.heap.size ≤ b)) ∧ ((Value.bool bb = .bool true ∧ J (j + 1) S' F' (w3.putObj B (rec_ st2 pd2))) ∨ (Value.bool bb = .bool false ∧ J (items.length + 1) S' F' (w3.putObj B (rec_ st2 pd2))))) := fun st2 pd2 bb σ3 h3' pq ⟨j', hj', hend⟩ => by
   obtain ⟨e1, e2, e3, e4, T2, Ft2, e5, e6, e7, e8⟩ := p5.leg c7 (fun _ _ _ e => e) (fun _ _ => rfl) pq
   obtain ⟨x1, x2, x3⟩ := e3 B hB2' hnotB2
   rw [World.putObj_heap_same hB2] at x1
   rw [d2] at x2
   have hT2 := e8 B hB2' hnotB2
   have hB3 : B < w3.heap.size := Nat.lt_of_lt_of_le hB2' e2.size
   obtain ⟨p6, gw6⟩ := e1.world (hput w3 (rec_ st2 pd2)) (U := fun b => b ≠ B) (fun b _ q => World.putObj_heap_other q) (fun i b N e q => x3 i N (q ▸ e)) (fun b e q => e (q ▸ x2)) (fun b hb q => by have hb : b < X.w0.heap.size := hb; omega) e5 (fun b e q => hT2 (q ▸ e)) (fun G hG b hb q => by have := hgn' G hG; omega)
   have hsz : w1.heap.size ≤ w3.heap.size := by
    have := c2.size
    have := e2.size
    simp only [World.putObj_size] at this
    omega
   have old1 : ∀ b, b < w1.heap.size → ¬ S b → ¬ ((∃ i N, ρ' i = some (b, N)) ∨ T b) := fun b _ q y => y.elim (fun ⟨i, N, e⟩ => q (j4 i b N e).1) fun y => q (j3 b y).1
   have old2 : ∀ b, b < w1.heap.size → ¬ S b → b < (w2.putObj B (rec_ .busy none)).heap.size ∧ ¬ ((∃ i N, σ1 i = some (b, N)) ∨ T1 b) := fun b hb q => by
    refine ⟨by simp only [World.putObj_size]; have := c2.size; omega, fun y => y.elim (fun ⟨i, N, e⟩ => ?_) fun y => c8 b hb (old1 b hb q) y⟩
    exact (c3 b hb (old1 b hb q)).2.2 i N e
   have old3 : ∀ b, b < w1.heap.size → ¬ S b → w3.heap[b]? = w1.heap[b]? ∧ σ3.F b = F2 b ∧ (∀ i N, σ3 i ≠ some (b, N)) ∧ ¬ T2 b := fun b hb q => by
    obtain ⟨y1, y2⟩ := old2 b hb q
    obtain ⟨z1, z2, z3⟩ := e3 b y1 y2
    obtain ⟨t1, t2, _⟩ := c3 b hb (old1 b hb q)
    have hne : b ≠ B := fun e => q (e ▸ j7)
    exact ⟨(z1.trans (World.putObj_heap_other hne)).trans t1, z2.trans t2, z3, e8 b y1 y2⟩
   have hFF : ∀ (b i : Nat) (x : Value), (F2 b)[i]? = some x → (σ3.F b)[i]? = some x := fun b i x e => e4 b i x (c4 b i x e)
   have hJ : J j' (fun b => S b ∨ (w1.heap.size ≤ b ∧ b < w3.heap.size)) F' (w3.putObj B (rec_ st2 pd2)) := by
    refine ⟨σ3, T2, Ft2, h3', st2, pd2, p6, gw6, fun b q => ⟨?_, e7 b q⟩, fun i b N e => ⟨?_, fun q => x3 i N (q ▸ e)⟩, ⟨x2, fun b q => ?_⟩, fun b i x e => hFF b i x (f4 b i x e), .inl j7, hT2, by simp only [World.putObj_size]; exact hB3, World.putObj_heap_same hB3, hend⟩
    ·by_cases hb : b < w1.heap.size
     ·exact .inl (Classical.byContradiction fun hn => (old3 b hb hn).2.2.2 q)
     ·exact .inr ⟨by omega, by have := e6 b q; omega⟩
    ·by_cases hb : b < w1.heap.size
     ·exact .inl (Classical.byContradiction fun hn => (old3 b hb hn).2.2.1 i N e)
     ·exact .inr ⟨by omega, e1.hr.lt i b N e⟩
    ·have q1 : ¬ S b := fun y => q (.inl (.inl y))
     have q2 : ¬ b < wB.heap.size := fun y => q (.inr y)
     by_cases hb : b < w1.heap.size
     ·rw [(old3 b hb q1).2.1, f2 b (fun y => y.elim q1 q2)]
     ·have hb3 : ¬ b < w3.heap.size := fun y => q (.inl (.inr ⟨by omega, y⟩))
      have r1 : σ3.F b = [] := Classical.byContradiction fun y => hb3 (e1.hr.F_lt y)
      rw [r1, fo_nil (fun b i x e => hFF b i x (f4 b i x e)) r1]
   refine ⟨x1, ⟨(c2.trans (hput w2 _)).trans (e2.trans (hput w3 _)), fun b hb q => ?_, fun b i x e => p6.hr.fz b i x (hFF b i x (f4 b i x e)), fun b => S b ∨ (w1.heap.size ≤ b ∧ b < w3.heap.size), fun b q => Or.inl q, fun b q => ⟨?_, ?_⟩, ?_⟩⟩
   ·rw [World.putObj_heap_other (fun e : b = B => q (by rw [e]; exact j7))]; exact (old3 b hb q).1
   ·simp only [World.putObj_size]
    rcases q with q | q
    ·have := hSlt b q; omega
    ·exact q.2
   ·rcases q with q | q
    ·exact .inl q
    ·exact .inr q.1
   ·rcases hj' with ⟨rfl, rfl⟩ | ⟨rfl, rfl⟩
    ·exact .inl ⟨rfl, hJ⟩
    ·exact .inr ⟨rfl, hJ⟩
  cases x with
  | normal =>
   obtain ⟨σ3, pq⟩ := hQ σ2 w3 k2
   obtain ⟨y1, y2⟩ := fin .ready none true σ3 _ pq ⟨j + 1, .inl ⟨rfl, rfl⟩, .inl ⟨hjl, rfl, rfl, rfl⟩⟩
   exact ⟨_, _, run_endRound none y1, y2⟩
  | exit id =>
   obtain ⟨y1, y2⟩ := fin .done (some (.exit id)) false σ2 _ k2 ⟨items.length + 1, .inr ⟨rfl, rfl⟩, .inr ⟨rfl, rfl, _, rfl, (by simp), hQ⟩⟩
   exact ⟨_, _, run_endRound (some (.exit id)) y1, y2⟩
  | ret =>
   obtain ⟨y1, y2⟩ := fin .done (some .ret) false σ2 _ k2 ⟨items.length + 1, .inr ⟨rfl, rfl⟩, .inr ⟨rfl, rfl, _, rfl, (by simp), hQ⟩⟩
   exact ⟨_, _, run_endRound (some .ret) y1, y2⟩
 let G : Gho X.c.P := ⟨wB.heap.size, J, hstab, B, items, hstep⟩
 have hfv' := VR.mono hs1 _ (ev_ok h3 f)
 rw [he.ev hfv] at hfv'
 simp only [VR, FR, VRs] at hfv'
 obtain ⟨f', F, C, e1, rfl, e3, e4⟩ := hfv'
 subst e1
 have hC : VRs (fzm ρ2.F) cap C := VRs.mono (ρ := ρ1.d) (σ := fzm ρ2.F) ⟨fun _ _ e => (by cases e), sF0, fun _ _ _ e => (by cases e)⟩ cap (dats_ok cap hdat e3)
 obtain ⟨nx', wc, q1, q2⟩ := hk.run G wB C (fun b => (∃ i N, ρ2 i = some (b, N)) ∨ S2 b ∨ b = B) ρ2.F rfl rfl p4.hr.fz hC (.inr (.inr rfl)) (by
  refine ⟨ρ2, S2, Fo2, H 0, .ready, none, p4, gw2, fun b q => ⟨.inr (.inl q), nsh2 b q⟩, fun i b N e => ⟨.inl ⟨i, N, e⟩, fun q => hBi i N (q ▸ e)⟩, ⟨hBF, fun b q => rfl⟩, fun _ _ _ e => e, .inr (.inr rfl), hBS, hBlt, hBl, .inl ⟨Nat.zero_le _, rfl, rfl, rfl⟩⟩) (fun b q => by
   rcases q with ⟨i, N, e⟩ | q | q
   ·exact p4.hr.lt i b N e
   ·exact lt2 b q
   ·omega)
 obtain ⟨fn, hfn, hbody'⟩ := hk.fn
 obtain ⟨bodyG, hbodyG⟩ := Option.isSome_iff_exists.1 hbody'
 have hnm : fn.name ≠ "runtime.NumGoroutine" := by simpa using E.k.names g fn hfn
 have hcall : ∀ (A : Array Value), (callFunc g A).run X.c.P wB = .ok (.enter g A) wB := fun A => by simp [callFunc, hfn, hnm, hbodyG, Sem.run]
 rw [hcall] at q1
 cases q1
 have harr : (([] : List Value).toArray ++ #[Value.func (.yield B) #[] #[]] ++ C.toArray) = (Value.func (.yield B) #[] #[] :: C).toArray := by apply Array.ext'; simp
 refine ⟨B, [{ target := .collected w.heap.size, args := #[] }], wB, { target := .fn (.func g) C.toArray, args := ([] : List Value).toArray ++ #[Value.func (.yield B) #[] #[]] }, wB, g, ([] : List Value).toArray ++ #[Value.func (.yield B) #[] #[]] ++ C.toArray, wB, hent, ?_, fun _ _ => trivial, ?_, fun q => by simp [wideR, Fence.wide] at q, ?_⟩
 ·simp only [resolve, e4, Deferred.ofValue, Sem.run_pure]
  simp [Act.eval]
 ·simp only [invoke]
  exact hcall _
 ·rw [harr]
  have q3 : CallsIn Fence.wide 0 X.c.P g (Value.func (.yield B) #[] #[] :: C).toArray wB (EndR _) := q2
  refine CallsIn.mono (callsIn_ro q3) fun e w' r => ?_
  cases e with
  | panicked ch => exact r.elim
  | outgrown => exact r.elim
  | returned z =>
   obtain ⟨r1, r2, k', S', F', r3, ρ', T, Ft, hh, st, pd, j1, j2, j3, j4, j5, j6, j7, j8, j9, j10, j11⟩ := r
   have hst : st ≠ .busy := by
    rcases j11 with q | q
    ·rw [q.2.1]; simp
    ·rw [q.2.1]; simp
   obtain ⟨v1, v2⟩ := VRs.split b1.length j1.keep
   obtain ⟨u1, u2, u3⟩ := b2 ρ' v1
   obtain ⟨p9, _⟩ := j1.world (w' := w'.putObj B (.loop { state := .exhausted, pending := pendOf pd, fn := fn', tmps := a.tmps, params := ps, assign, body, defers := w.heap.size })) ⟨rfl, rfl, rfl, by simp only [World.putObj_size]; omega⟩ (U := fun b => b ≠ B) (fun b _ q => World.putObj_heap_other q) (fun i b N e q => (j4 i b N e).2 q) (fun b e q => e (q ▸ j5.1)) (fun b hb q => by have hb : b < X.w0.heap.size := hb; omega) j2 (fun b e q => j8 (q ▸ e)) (fun G hG b hb q => by have := hgn' G hG; omega)
   have p10 := (PI.less p9 b1.length).1
   obtain ⟨e', he', er'⟩ := known_env (σ := ρ') (L := L) (tm := a.tmps) (sz := sz) h3.1 u3
   refine ⟨pendOf pd, _, run_endLoop j10 hst, ?_⟩
   rcases j11 with ⟨q5, _, rfl, rfl⟩ | ⟨_, _, x, rfl, hxn, hrun⟩
   ·have hk' : k' = items.length := by omega
    subst hk'
    exact h5 .normal ⟨e', _, _⟩ { a with defers := [{ target := .collected w.heap.size, args := #[] }] ++ a.defers } _ ρ' (nx.run e' he') u1 p10 er' u2
   ·have fin := h5 x ⟨e', _, h.nxt :: m⟩ { a with defers := [{ target := .collected w.heap.size, args := #[] }] ++ a.defers } _ ρ' (hrun e' he') u1 p10 er' u2
    cases x with
    | normal => exact absurd rfl hxn
    | exit id => exact wpIn_exit fin
    | ret => exact wpIn_ret fin⟩
end Go.Px
end
section
namespace Go.Px
structure Hid (X : Cx) (ρ : Map) (S : Nat → Prop) (n0 : Nat) (w : World) (B : Nat) : Prop where
  lt : B < w.heap.size
  at_ : w.heap[B]? = some (.deferred (some []))
  im : ∀ i N, ρ i ≠ some (B, N)
  F : ρ.F B = []
  sh : ¬ X.shut B
  S : ¬ S B
  n0 : n0 ≤ B
/-! ## the loop -/
structure B2 where
  w0 : World
  F0 : Nat → List Value
  opn : Nat → Prop
  hid : List Nat
end Go.Px
end
section
namespace Go.Px
open Go.Sort Go.Proofs
section
variable {X : Cx} {tb : List (Nat × TE)} (E : Env X.c tb) {sz : Nat} {rd : Option Nat} {all : Array Oper} {o : Oper} {rest : List Oper} {k : List It} {L : List (Nat × AV)} {h : Heap} {m : List Nat} {Q : Post}
include E
end
end Go.Px
end
section
open Go.Sort Go.Proofs
namespace Go.Px
end Go.Px
end
section
namespace Go.Px
theorem flat_rep {α : Type} {z : Nat} {enc : α → List AV} (he : ∀ a, (enc a).length = z) (hz : z ≠ 0) (d : α) {n j : Nat} (hj : j < n * z) : ((List.replicate n d).flatMap enc)[j]? = (enc d)[j % z]? := by
 have h1 : j / z < n := (Nat.div_lt_iff_lt_mul (by omega)).2 hj
 have h2 : j % z < z := Nat.mod_lt _ (by omega)
 have := flat_get he d (l := List.replicate n d) (i := j / z) (f := j % z) (by simpa using h1) h2
 rw [Nat.mul_comm, Nat.div_add_mod] at this
 rw [this]
 congr 2
 simp [List.getD_eq_getElem?_getD, List.getElem?_replicate, h1]
section
variable {X : Cx} {tb : List (Nat × TE)} (E : Env X.c tb) {sz : Nat} {rd : Option Nat} {all : Array Oper} {o : Oper} {rest : List Oper} {k : List It} {L : List (Nat × AV)} {h : Heap} {m : List Nat} {Q : Post}
include E
theorem Ops.makeTok {α : Type} {N d t el n z : Nat} {x y : Operand} {e ee : TE} {enc : α → List AV} (dz : α) (hd : o.dst = some d) (hs : Nat.ble (d + 1) sz = true) (hw : Want all L o true) (ho : o.op = .makeSlice t x y) (hx : evL L x = some (.int .i64 (n : Int))) (hy : evL L y = some (.int .i64 (n : Int))) (ht : lkT tb t = some e) (hk : e.k = .slice el) (hel : lkT tb el = some ee)
  (hzz : (match ee.z with | .bad => none | v => some v.cells) = some (enc dz)) (henc : ∀ a, (enc a).length = z) (hez : Nat.beq ee.s z = true) (hz0 : Nat.beq z 0 = false) (hdt : datsB (enc dz) = true) (hb : Nat.ble ee.b 1000 = true) (hn : n ≠ 0) (hsm : n ≤ 1000000)
  (hg : h.get N = .arr el z 0 []) (hi : HInd N h) (hL : indL N L = true) (hm : (m.all fun i => !Nat.beq i N) = true) (hrd : rdNot N rd = true) (hG : indsB N X.gv = true)
  (nx : Ops X sz rd all rest k ((d, .own N n z) :: L) (h.put N (.arr el z n ((List.replicate n dz).flatMap enc))) m Q) : Ops X sz rd all (o :: rest) k L h m Q := ⟨fun e0 he => by
 refine TriOps.cons (hw e0 he) (K := fun s' => RunK X sz rd k Q .normal s') ?_
 intro ro ρ w a next Q' h1 p h3 h4 h5
 refine ⟨fun _ _ => trivial, ?_⟩
 rw [show (wideR ro).round = ro from rfl, Oper.semAt_eq ro a.eval o (by rw [ho]; intro d q; cases q)]
 have hxv : a.eval x = .int .i64 n := by have := ev_ok h3 x; rw [he.ev hx] at this; simpa only [VR] using this
 have hyv : a.eval y = .int .i64 n := by have := ev_ok h3 y; rw [he.ev hy] at this; simpa only [VR] using this
 obtain ⟨ie, i1, i2, i3⟩ := (E.t el ee hel).si
 have hez := beqT hez
 have hz0 := beqN hz0
 have hzc : X.c.zcells el = some (enc dz) := by
  unfold Ctx.zcells
  rw [(E.t el ee hel).z]
  cases hv : ee.z <;> rw [hv] at hzz <;> first | (cases hzz; done) | exact hzz
 obtain ⟨it, Z, z1, z2, z3, z4⟩ := zcells_ok E.k hzc ρ
 rw [i1] at z4; cases z4
 have hsz : ie.size = z := i2.trans hez
 have hu := under_eq E.k ((E.t t e ht).sl hk)
 have hb1 : (ie.bytes * n : Nat) ≤ 1000 * 1000000 := Nat.mul_le_mul (by rw [i3]; exact bleT hb) hsm
 have hmk := run_make (P := X.c.P) w t el ie Z hu z1 z2 .i64 .i64 n n (by omega) (by omega) (by
  have : ((ie.bytes * n : Nat) : Int) ≤ 1000000000 := by omega
  rw [Int.natCast_mul] at this; omega) (by omega)
 simp only [Int.toNat_natCast] at hmk
 rw [hsz] at hmk
 have gr := newRow_ok p.hr p.wf (p.fr.1 _ (Nat.le_refl _)) el (n * z) (enc dz) (madeCells Z.cells (n * z)) (fun j hj => by
  rw [Row.get_new]; exact made_get z3 _ hj (by rw [henc]; exact hz0)) (by simp [size_madeCells])
 have hro := gr.hr.ok h.nxt _ _ (upd_same _ _ _) (by unfold Heap.ok; rw [show (newRow h el (n * z) .leaf (enc dz)).get h.nxt = .row ⟨el, n * z, .leaf, enc dz, none⟩ from by show (h.new _).get _ = _; rw [Heap.get_new, if_pos rfl]]; simp only []; rw [Heap.row_of (by show (h.new _).get _ = _; rw [Heap.get_new, if_pos rfl])]; rfl)
 rw [show (newRow h el (n * z) .leaf (enc dz)).get h.nxt = .row ⟨el, n * z, .leaf, enc dz, none⟩ from by show (h.new _).get _ = _; rw [Heap.get_new, if_pos rfl]] at hro
 have hro : RowOk _ ⟨el, n * z, .leaf, enc dz, none⟩ _ _ _ := hro
 have hfl : ((List.replicate n dz).flatMap enc).length = n * z := by rw [flat_len henc, List.length_replicate]
 simp only [size_madeCells] at hro
 have hrow : RowOk ρ.d ⟨el, n * z, .leaf, (List.replicate n dz).flatMap enc, none⟩ w.heap.size (n * z) (w.alloc (.cells (madeCells Z.cells (n * z)) el)) := by
  refine ⟨hro.1, hro.2.1, hro.2.2.1, fun j hj => ?_⟩
  have hj : j < n * z := hj
  obtain ⟨v, v1, v2⟩ := hro.2.2.2 j hj
  refine ⟨v, v1, ?_⟩
  have e1 : Row.get ⟨el, n * z, .leaf, (List.replicate n dz).flatMap enc, none⟩ j = (enc dz).getD (j % z) .bad := by
   have := row_at_i (t := el) (cs := (List.replicate n dz).flatMap enc) (j := j) (by rw [hfl]; exact hj)
   rw [hfl] at this
   rw [this, List.getD_eq_getElem?_getD, flat_rep henc hz0 dz hj, List.getD_eq_getElem?_getD]
  have e2 : Row.get ⟨el, n * z, .leaf, enc dz, none⟩ j = (enc dz).getD (j % z) .bad := by
   rw [Row.get_new, henc, List.getD_eq_getElem?_getD]
  rw [e2] at v2
  rw [e1]
  have hlt : j % z < (enc dz).length := by rw [henc]; exact Nat.mod_lt _ (by omega)
  have hdj : datB ((enc dz).getD (j % z) .bad) = true := by
   have key : ∀ (l : List AV) (i : Nat), datsB l = true → i < l.length → datB (l.getD i .bad) = true := by
    intro l
    induction l with
    | nil => intro i _ hi; simp at hi
    | cons a l ih =>
     intro i hl hi
     simp only [datsB] at hl
     split at hl
     ·rename_i ha
      cases i with
      | zero => exact ha
      | succ i => exact ih i hl (by simpa using hi)
     ·cases hl
   exact key _ _ hdt hlt
  exact dat_ok (ρ := upd ρ h.nxt (w.heap.size, n * z)) _ hdj v2
 obtain ⟨ρ', r1, r2, r3⟩ := p.setArr (w' := w.alloc (.cells (madeCells Z.cells (n * z)) el)) (n' := n) (l' := (List.replicate n dz).flatMap enc) (B := w.heap.size) (C := n) hg hi hG (by omega) hfl (Nat.le_refl n) rfl hrow ⟨rfl, rfl, rfl, by rw [World.size_alloc]; omega⟩ (.inr ⟨rfl, World.size_alloc _ _, fun D hD => by
  show (w.heap.push _)[D]? = _
  rw [Array.getElem?_push, if_neg (by omega)]⟩)
 have hrun : (execOp a.eval o).run X.c.P w = .ok (.value (.slice (some ⟨w.heap.size, 0, none⟩) n n)) (w.alloc (.cells (madeCells Z.cells (n * z)) el)) := by
  simp only [execOp, ho, hxv, hyv]
  simp [Sem.run_bind, hmk]
 rw [hrun]
 obtain ⟨e', he', er'⟩ := known_env (σ := ρ') (L := L) (tm := a.tmps) (sz := sz) h3.1 (fun s v qq => by
  have := h3.2 s
  rw [he s v qq] at this
  exact ind_ok r2 v (indL_at hL s v qq) this)
 refine h5 (.own N n z) ⟨e', _, m⟩ _ _ ρ' ⟨e'.set und d (.own N n z), by rw [hd]; exact setD_some hs, nx.run _ (he'.set d _)⟩ ?_ r1 er' ?_ r3
 ·cases rd with
  | none => exact h1
  | some r =>
   obtain ⟨B', N', q1, q2⟩ := h1
   exact ⟨B', N', r2.m r _ (nb (show (!Nat.beq r N) = true from hrd)) q1, q2⟩
 ·have hmr : ∀ {m : List Nat} {D : List Deferred}, (m.all fun i => !Nat.beq i N) = true → MR ρ m D → MR ρ' m D := by
   intro m
   induction m with
   | nil => intro D _ q; exact q
   | cons d m ih =>
    intro D hh q
    simp only [List.all_cons, Bool.and_eq_true] at hh
    obtain ⟨B, N, r, q1, q2, q3⟩ := q
    exact ⟨B, N, r, r2.m d _ (nb hh.1) q1, ih hh.2 q2, q3⟩
  obtain ⟨D1, h5, h6⟩ := h4
  exact ⟨D1, hmr hm h5, h6⟩⟩
theorem Ops.makeOwn {α : Type} (N : Nat) {d t el n z : Nat} {x y : Operand} {e ee : TE} {enc : α → List AV} (dz : α) (hd : o.dst = some d) (hs : Nat.ble (d + 1) sz = true) (hw : Want all L o true) (ho : o.op = .makeSlice t x y) (hx : evL L x = some (.int .i64 (n : Int))) (hy : evL L y = some (.int .i64 (n : Int))) (ht : lkT tb t = some e) (hk : e.k = .slice el) (hel : lkT tb el = some ee)
  (hN : h.nxt = N) (hzz : (match ee.z with | .bad => none | v => some v.cells) = some (enc dz)) (henc : ∀ a, (enc a).length = z) (hez : Nat.beq ee.s z = true) (hz0 : Nat.beq z 0 = false) (hdt : datsB (enc dz) = true) (hb : Nat.ble ee.b 1000 = true) (hn : n ≠ 0) (hsm : n ≤ 1000000)
  (hi : HInd N (newAt N h (.arr el z 0 []))) (hL : indL N L = true) (hm : (m.all fun i => !Nat.beq i N) = true) (hrd : rdNot N rd = true) (hG : indsB N X.gv = true)
  (nx : Ops X sz rd all rest k ((d, .own N n z) :: L) ((newAt N h (.arr el z 0 [])).put N (.arr el z n ((List.replicate n dz).flatMap enc))) m Q) (hgz : X.g = none ∨ Nat.ble 1 N = true := by first | exact .inl rfl | exact .inr rfl) : Ops X sz rd all (o :: rest) k L h m Q :=
 Ops.change (Chg.tokNew N el z hN hgz) (Ops.makeTok E dz hd hs hw ho hx hy ht hk hel hzz henc hez hz0 hdt hb hn hsm (by subst hN; rw [← new_at rfl, Heap.get_new, if_pos rfl]) hi hL hm hrd hG nx)
omit E in
theorem flat_set {α : Type} {z : Nat} {enc : α → List AV} (henc : ∀ a, (enc a).length = z) : ∀ {l : List α} {i : Nat} {b : α}, i < l.length → (l.set i b).flatMap enc = (l.flatMap enc).take (i * z) ++ enc b ++ (l.flatMap enc).drop (i * z + z)
 | [], i, b, hi => by simp at hi
 | a :: l, 0, b, hi => by
  have : List.drop z (enc a ++ l.flatMap enc) = l.flatMap enc := by rw [List.drop_append_of_le_length (by rw [henc]; exact Nat.le_refl _), List.drop_of_length_le (by rw [henc]; exact Nat.le_refl _), List.nil_append]
  simp [this]
 | a :: l, i + 1, b, hi => by
  have ih := flat_set henc (l := l) (i := i) (b := b) (by simpa using hi)
  rw [List.set_cons_succ, List.flatMap_cons, ih, List.flatMap_cons]
  have e1 : (i + 1) * z = (enc a).length + i * z := by rw [henc, Nat.succ_mul, Nat.add_comm]
  rw [e1, Nat.add_assoc, List.take_append, List.drop_append]
  rw [List.take_of_length_le (l := enc a) (by omega), List.drop_of_length_le (l := enc a) (by omega)]
  simp
theorem Hop.stFG {α : Type} {t : Nat} {x y : Operand} {id n i off ty z : Nat} {enc : α → List AV} {l : List α} {v : AV} {e : TE} (b : α) (ho : o.op = .store t x y) (hx : evL L x = some (.optr id n off)) (hy : evL L y = some v) (hv : v.cells = enc b) (hoff : off = i * z) (ht : lkT tb t = some e) (hes : Nat.beq e.s z = true) (hg : h.get id = .arr ty z n (l.flatMap enc)) (henc : ∀ a, (enc a).length = z)
  (h1 : ones (enc b) = true) (h2 : datsB (enc b) = true) (hi : i < l.length) (hz1 : Nat.ble 1 e.s = true := by rfl) : Hop X L h o und (h.put id (.arr ty z n ((l.set i b).flatMap enc))) := by
 subst hoff
 have hes' := beqT hes
 have h3 : (i + 1) * z ≤ l.length * z := Nat.mul_le_mul_right z hi
 rw [Nat.succ_mul] at h3
 have := Hop.storeO E (off := i * z) ho hx hy ht (by rw [hv, henc]; exact hes) hg (by rw [hv]; exact h1) (by rw [hv]; exact h2) (by rw [hv, henc, flat_len henc]; exact h3) hz1
 rw [hv, henc] at this
 rw [flat_set henc hi]
 exact this
end
end Go.Px
end
section
namespace Go.Px
section
variable {X : Cx} {tb : List (Nat × TE)} (E : Env X.c tb) {sz : Nat} {rd : Option Nat} {all : Array Oper} {o : Oper} {rest : List Oper} {k : List It} {L : List (Nat × AV)} {h : Heap} {m : List Nat} {Q : Post}
include E
omit E in
theorem Chg.tokS (n0 t ty z : Nat) {u : AV} (hn0 : h.nxt = n0) (hu : noRoom u = true) (hl : lkO L t = some u) (hz : X.g = none ∨ Nat.ble 1 n0 = true := by first | exact .inl rfl | exact .inr rfl) : Chg X sz rd L h ((t, .own n0 0 z) :: L) (newAt n0 h (.arr ty z 0 [])) m := by
 subst hn0
 rw [← new_at rfl]
 exact Chg.tokU t ty z hu hl hz
end
end Go.Px
end
section
namespace Go.Px
theorem mrx_out {X : Cx} {ρ ρ' : Map} {id : Nat} (m2 : ∀ i, i ≠ id → ρ' i = ρ i) : ∀ {m : List Nat} {D : List Deferred}, (m.all fun i => !Nat.beq i id) = true → MR ρ m D → MR ρ' m D
 | [], D, _, q => q
 | d :: m, D, hh, q => by
  simp only [List.all_cons, Bool.and_eq_true] at hh
  obtain ⟨B, N, r, q1, q2, q3⟩ := q
  exact ⟨B, N, r, by rw [m2 d (nb hh.1)]; exact q1, mrx_out (X := X) m2 hh.2 q2, q3⟩
theorem rox_out {X : Cx} {ρ ρ' : Map} {id : Nat} {rd ro : Option Nat} (m2 : ∀ i, i ≠ id → ρ' i = ρ i) (hrd : rdNot id rd = true) (h1 : RoX X ρ rd ro) : RoX X ρ' rd ro := by
 cases rd with
 | none => exact h1
 | some r =>
  obtain ⟨B, N, q1, q2⟩ := h1
  exact ⟨B, N, by rw [m2 r (nb (show (!Nat.beq r id) = true from hrd))]; exact q1, q2⟩
section
variable {X : Cx} {sz : Nat} {rd : Option Nat} {L : List (Nat × AV)} {h : Heap} {m : List Nat}
theorem Chg.cellFrz (id k : Nat) {t ty : TypeId} {z n : Nat} {l : List AV} (hg : h.get id = .row ⟨t, 1, .leaf, [.own k n z], none⟩) (hk : h.get k = .arr ty z n l) (hi : HInd k h) (hL : indL k L = true) (hm : (m.all fun i => !Nat.beq i k) = true) (hrd : rdNot k rd = true) (hG : indsB k X.gv = true := by rfl) :
  Chg X sz rd L h L ((h.put k .none).put id (.row ⟨t, 1, .leaf, [.rsl n z l], none⟩)) m := fun ro ρ w e a h1 p h3 he h4 => by
 obtain ⟨ρ', p', sx, m2, f4, fV⟩ := p.frzArr hk hi hG
 have hne : id ≠ k := fun q => by subst q; rw [hg] at hk; cases hk
 have hg' : (h.put k .none).get id = .row ⟨t, 1, .leaf, [.own k n z], none⟩ := by rw [Heap.get_put, if_neg hne]; exact hg
 have p2 := p'.cell (r' := ⟨t, 1, .leaf, [.rsl n z l], none⟩) hg' rfl rfl rfl rfl (fun j v hj q => by
  have hj : j = 0 := by have hj : j < 1 := hj; omega
  subst hj
  rw [row1] at q ⊢
  refine f4 v ?_
  simp only [VR] at q ⊢
  rw [fV] at q; exact q)
 obtain ⟨e', he', er'⟩ := known_env (σ := ρ') (L := L) (tm := a.tmps) (sz := sz) h3.1 (fun s v q => by
  have := h3.2 s
  rw [he s v q] at this
  exact ind_ok sx v (indL_at hL s v q) this)
 obtain ⟨D1, h5, h6⟩ := h4
 exact ⟨ρ', e', rox_out m2 hrd h1, p2, er', he', ⟨D1, mrx_out (X := X) m2 hm h5, h6⟩⟩
end
section
variable {X : Cx} {tb : List (Nat × TE)} (E : Env X.c tb) {sz : Nat} {rd : Option Nat} {all : Array Oper} {o : Oper} {rest : List Oper} {k : List It} {L : List (Nat × AV)} {h : Heap} {m : List Nat} {Q : Post}
include E
end
end Go.Px
end
section
namespace Go.Px
section
variable {X : Cx} {sz : Nat} {rd : Option Nat} {all : Array Oper} {k : List It} {L : List (Nat × AV)} {h : Heap} {m : List Nat} {Q : Post}
end
theorem oks_at {A R : List Nat} : ∀ {cs : List AV} {j : Nat}, oksB A R cs = true → j < cs.length → okB A R (cs.getD j .bad) = true
 | [], _, _, h => by simp at h
 | c :: cs, j, h, hj => by
  simp only [oksB] at h
  split at h
  ·rename_i hc
   cases j with
   | zero => exact hc
   | succ j => exact oks_at (cs := cs) h (by simpa using hj)
  ·cases h
theorem ok_row {A R : List Nat} {N : Nat} {t : TypeId} {cs : List AV} (hN : cs.length = N) (h : oksB A R cs = true) : ABOk A R (.row ⟨t, N, .leaf, cs, none⟩) := by
 subst hN
 show ((List.range cs.length).all fun j => okB A R (Row.get ⟨t, cs.length, .leaf, cs, none⟩ j)) = true
 rw [List.all_eq_true]
 intro j hj
 have hj : j < cs.length := by simpa using hj
 rw [row_at_i hj]; exact oks_at h hj
end Go.Px
end
section
namespace Go.Px
noncomputable def rdyG (ops : List Oper) (done : Nat) : Nat → List Nat → List Nat
 | _, [] => []
 | i, _ :: r => (match bitB done i with
  | true => rdyG ops done (i + 1) r
  | false => (match nth1 ops i with
   | some o => (match o.after.toList.all fun e => (match edgeB e with | true => (bitB done e.on && Nat.ble (e.on + 1) ops.length) | false => true) with
    | true => i :: rdyG ops done (i + 1) r
    | false => rdyG ops done (i + 1) r)
   | none => rdyG ops done (i + 1) r))
noncomputable def rdy (ops : List Oper) (done : Nat) : List Nat := rdyG ops done 0 (List.range ops.length)
theorem rdyG_mem (ops : List Oper) (done : Nat) : ∀ (r : List Nat) (i j : Nat), i ≤ j → j < i + r.length → bitB done j = false → (∃ o, nth1 ops j = some o ∧ ∀ e ∈ o.after.toList, edgeB e = true → bitB done e.on = true ∧ e.on < ops.length) → j ∈ rdyG ops done i r
 | [], i, j, h1, h2, _, _ => absurd h2 (by simp; omega)
 | x :: r, i, j, h1, h2, hb, ho => by
  have ih := fun (q : i ≠ j) => rdyG_mem ops done r (i + 1) j (by omega) (by simp at h2; omega) hb ho
  unfold rdyG
  by_cases hij : i = j
  ·subst hij
   rw [hb]
   obtain ⟨o, e1, e2⟩ := ho
   simp only [e1]
   have : (o.after.toList.all fun e => (match edgeB e with | true => (bitB done e.on && Nat.ble (e.on + 1) ops.length) | false => true)) = true := by
    rw [List.all_eq_true]
    intro e he
    cases hg : edgeB e with
    | true =>
     obtain ⟨q1, q2⟩ := e2 e he hg
     simp only [q1, Bool.true_and]
     exact Nat.ble_eq_true_of_le q2
    | false => rfl
   simp [this]
  ·have ih := ih hij
   split
   ·exact ih
   ·split
    ·split
     ·exact List.mem_cons_of_mem _ ih
     ·exact ih
    ·exact ih
theorem rdyG_spec (ops : List Oper) (done : Nat) : ∀ (r : List Nat) (i j : Nat), j ∈ rdyG ops done i r → bitB done j = false ∧ ∃ o, nth1 ops j = some o ∧ ∀ e ∈ o.after.toList, edgeB e = true → bitB done e.on = true ∧ e.on < ops.length
 | [], i, j, h => by cases h
 | x :: r, i, j, h => by
  have ih := rdyG_spec ops done r (i + 1) j
  unfold rdyG at h
  split at h
  ·exact ih h
  ·rename_i hb
   split at h
   ·rename_i o ho
    split at h
    ·rename_i ha
     rcases List.mem_cons.1 h with h | h
     ·subst h
      refine ⟨hb, o, ho, fun e he hg => ?_⟩
      have := List.all_eq_true.1 ha e he
      simp only [hg, Bool.and_eq_true] at this
      exact ⟨this.1, Nat.le_of_ble_eq_true this.2⟩
     ·exact ih h
    ·exact ih h
   ·exact ih h
theorem rdy_of {ops : Array Oper} {listed : Array Bool} {done i : Nat} (hs : listed.size = ops.size) (hd : ∀ i, i < ops.size → listed.getD i false = bitB done i) (h : i ∈ Region.ready .any ops listed) : i ∈ rdy ops.toList done ∧ i < ops.size := by
 unfold Region.ready at h
 rw [List.mem_filter] at h
 obtain ⟨h1, h2⟩ := h
 have hi : i < ops.size := List.mem_range.1 h1
 refine ⟨?_, hi⟩
 simp only [Bool.and_eq_true] at h2
 obtain ⟨h2, h3⟩ := h2
 have hl : listed.getD i false = false := by
  have : listed.getD i true = false := by simpa using h2
  rw [Array.getD_eq_getD_getElem?] at this ⊢
  rw [Array.getElem?_eq_getElem (by omega)] at this ⊢
  exact this
 refine rdyG_mem ops.toList done _ 0 i (Nat.zero_le _) (by simpa using hi) (by rw [← hd i hi]; exact hl) ?_
 rw [Array.getElem?_eq_getElem hi] at h3
 simp only [Option.map_some, Option.getD_some] at h3
 refine ⟨ops[i], by rw [nth1_eq]; simp [hi], fun e he hg => ?_⟩
 rw [Array.all_eq_true_iff_forall_mem] at h3
 have := h3 e (by simpa using he)
 rw [← edgeB_eq, hg] at this
 simp only [Bool.not_true, Bool.false_or] at this
 by_cases hj : e.on < ops.size
 ·rw [← hd _ hj]; exact ⟨this, by simpa using hj⟩
 ·rw [Array.getD_eq_getD_getElem?, Array.getElem?_eq_none (by omega)] at this; cases this
section
variable {X : Cx} {sz : Nat} {rd : Option Nat} {all : Array Oper} {k : List It} {L : List (Nat × AV)} {h : Heap} {m : List Nat} {Q : Post}
def AnyT (X : Cx) (sz : Nat) (rd : Option Nat) (all : Array Oper) (fuel done : Nat) (s : St) (K : St → Prop) : Prop :=
 ∀ (listed : Array Bool), listed.size = all.size → (∀ i, i < all.size → listed.getD i false = bitB done i) →
 ∀ (ro : Option Nat) (ρ : Map) (w : World) (a : Act) (Q' : Exit → Act → World → Prop), RoX X ρ rd ro → PI X ρ s.h w → ER ρ s.e a.tmps sz → MRX X ρ s.m a.defers →
 (∀ s' a' w' ρ', K s' → RoX X ρ' rd ro → PI X ρ' s'.h w' → ER ρ' s'.e a'.tmps sz → MRX X ρ' s'.m a'.defers → Q' .normal a' w') → wpAnyIn (wideR ro) 0 X.c.P .any all Q' fuel listed a w
def AnyQ (X : Cx) (sz : Nat) (rd : Option Nat) (all : Array Oper) (fuel done : Nat) (k : List It) (Q : Post) : Post := fun x s => x = .normal ∧ AnyT X sz rd all fuel done s (fun s' => RunK X sz rd k Q .normal s')
theorem letsOut_of {Q1 Q2 : Exit → Act → World → Prop} (h : ∀ x a w, x ≠ .normal → Q1 x a w → Q2 x a w) (q : LetsOut Q1) : LetsOut Q2 := by
 obtain ⟨a, w, q⟩ := q
 exact ⟨a, w, h _ a w (fun q => by cases q) q⟩
theorem wpOpIn_post {F : Fence} {n : Nat} {P : Program} {ops : Array Oper} {Q1 Q2 : Exit → Act → World → Prop} (h : ∀ x a w, x ≠ .normal → Q1 x a w → Q2 x a w) {i : Nat} {K : Act → World → Prop} {a : Act} {w : World} (hh : wpOpIn F n P ops Q1 i K a w) : wpOpIn F n P ops Q2 i K a w := by
 unfold wpOpIn at *
 split
 ·simpa [*] using hh
 ·rename_i o ho
  simp only [ho] at hh
  split
  ·rename_i hw
   simp only [hw, if_true] at hh
   unfold Oper.wpIn at *
   refine ⟨hh.1, ?_⟩
   have hh := hh.2
   generalize (o.semAt F.round a.eval).run P w = r at *
   cases r with
   | ok x w' =>
    cases x <;> simp only [Oper.uponIn] at hh ⊢ <;>
     first
      | exact hh
      | exact ⟨hh.1, CallsIn.mono hh.2 (fun e w'' he => by cases e <;> first | exact he | exact h _ _ _ (fun q => by cases q) he | exact letsOut_of h he)⟩
      | exact ⟨hh.1, RoundIn.mono hh.2 (fun e w'' he => by cases e <;> first | exact he | exact h _ _ _ (fun q => by cases q) he | exact letsOut_of h he)⟩
   | halt x w' => cases x <;> simp only [Oper.uponIn] at hh ⊢ <;> first | exact hh | exact h _ _ _ (fun q => by cases q) hh
  ·rename_i hw; simp only [hw] at hh; exact hh
theorem Go.anyD (hm : X.c.P.follows .mixedOrders = true) {id : Nat} (n : Go X sz rd [] L h m (AnyQ X sz rd all all.toList.length 0 k Q)) : Go X sz rd (.code (.region id all true) :: k) L h m Q := ⟨fun e he => by
 intro ro ρ w a Q' h1 h2 h3 h4 h5
 obtain ⟨_, q⟩ : AnyQ X sz rd all all.toList.length 0 k Q .normal ⟨e, h, m⟩ := n.run e he
 refine wpIn_region_any hm ?_
 have := q (Array.replicate all.size false) (by simp) (fun i hi => by rw [Array.getD_eq_getD_getElem?, Array.getElem?_replicate, if_pos hi, bit_zero]; rfl) ro ρ { w with drawn := w.drawn + 1 } a Q' h1
  (h2.good ((Good.refl h2.hr h2.wf).draw rfl ⟨rfl, rfl, rfl, Nat.le_refl _⟩) (ArrKeep.refl h)) h3 h4 (fun s' a2 w2 ρ2 z1 z2 z3 z4 z5 => h5 .normal s' a2 w2 ρ2 z1 z2 z3 z4 z5)
 simpa using this⟩
theorem Go.anyEnd {fuel done : Nat} (hr : rdy all.toList done = []) (n : Go X sz rd k L h m Q) : Go X sz rd [] L h m (AnyQ X sz rd all fuel done k Q) := Go.nil fun e he => ⟨rfl, fun listed hs hd ro ρ w a Q' h1 h2 h3 h4 h5 => by
 have hnil : Region.ready .any all listed = [] := by
  cases q : Region.ready .any all listed with
  | nil => rfl
  | cons i r =>
   have := (rdy_of hs hd (i := i) (by rw [q]; exact List.mem_cons_self)).1
   rw [hr] at this; cases this
 have hq : Q' .normal a w := h5 _ a w ρ (n.run e he) h1 h2 h3 h4
 cases fuel with
 | zero => exact ⟨hnil, hq⟩
 | succ fuel =>
  refine ⟨fun _ => hq, fun i hi => ?_⟩
  rw [hnil] at hi; cases hi⟩
def NextA (X : Cx) (sz : Nat) (rd : Option Nat) (all : Array Oper) (fuel done : Nat) (k : List It) (L : List (Nat × AV)) (h : Heap) (m : List Nat) (Q : Post) (i : Nat) : Prop :=
 ∃ o, nth1 all.toList i = some o ∧ Ops X sz rd all [o] [] L h m (AnyQ X sz rd all fuel (orB done (bit1 i)) k Q)
theorem Go.anyStep {fuel done : Nat} (hne : ∀ listed, listed.size = all.size → (∀ i, i < all.size → listed.getD i false = bitB done i) → Region.ready .any all listed ≠ []) (H : ∀ i ∈ rdy all.toList done, NextA X sz rd all fuel done k L h m Q i) : Go X sz rd [] L h m (AnyQ X sz rd all (fuel + 1) done k Q) := Go.nil fun e he => ⟨rfl, fun listed hs hd ro ρ w a Q' h1 h2 h3 h4 h5 => by
 refine ⟨fun q => absurd q (hne listed hs hd), fun i hi => ?_⟩
 obtain ⟨hi1, hi2⟩ := rdy_of hs hd hi
 obtain ⟨o, ho, n⟩ := H i hi1
 rw [nth1_eq] at ho
 have ho' : all[i]? = some o := by simpa using ho
 let Q2 : Exit → Act → World → Prop := fun x a w => match x with | .normal => wpAnyIn (wideR ro) 0 X.c.P .any all Q' fuel (listed.setIfInBounds i true) a w | x => Q' x a w
 have g := n.run e he [i] (by simp [ho']) ro ρ w a Q2 h1 h2 h3 h4 (fun s' a' w' ρ' z1 z2 z3 z4 z5 => by
  obtain ⟨_, z1⟩ : AnyQ X sz rd all fuel (orB done (bit1 i)) k Q .normal s' := z1
  refine z1 (listed.setIfInBounds i true) (by simpa using hs) (fun j hj => ?_) ro ρ' w' a' Q' z2 z3 z4 z5 h5
  rw [bit_or, bit_one, ← hd j hj, Array.getD_eq_getD_getElem?, Array.getD_eq_getD_getElem?, Array.getElem?_setIfInBounds]
  by_cases hij : i = j
  ·subst hij
   rw [if_pos rfl, if_pos (by omega)]
   simp
  ·rw [if_neg hij]
   have : decide (j = i) = false := by simpa using fun q => hij q.symm
   rw [this, Bool.or_false])
 rw [wpOpsIn_cons] at g
 refine wpOpIn_mono (fun a w q => ?_) (wpOpIn_post (Q2 := Q') (fun x a w hx q => by cases x <;> first | exact q | exact absurd rfl hx) g)
 exact q⟩
theorem ready_ne {done i : Nat} {r : List Nat} (hr : rdy all.toList done = i :: r) (listed : Array Bool) (hs : listed.size = all.size) (hd : ∀ i, i < all.size → listed.getD i false = bitB done i) : Region.ready .any all listed ≠ [] := fun q => by
 obtain ⟨h1, o, h2, h3⟩ := rdyG_spec all.toList done (List.range all.toList.length) 0 i (by rw [← rdy, hr]; exact List.mem_cons_self)
 rw [nth1_eq] at h2
 have ho : all[i]? = some o := by simpa using h2
 have hi : i < all.size := by
  rcases Nat.lt_or_ge i all.size with h | h
  ·exact h
  ·rw [Array.getElem?_eq_none h] at ho; cases ho
 have : i ∈ Region.ready .any all listed := by
  unfold Region.ready
  rw [List.mem_filter]
  refine ⟨List.mem_range.2 hi, ?_⟩
  have e1 : listed.getD i true = false := by
   have := hd i hi
   rw [h1] at this
   rw [Array.getD_eq_getD_getElem?] at this ⊢
   rw [Array.getElem?_eq_getElem (by omega)] at this ⊢
   exact this
  rw [e1, ho]
  simp only [Option.map_some, Option.getD_some, Bool.not_false, Bool.true_and]
  rw [Array.all_eq_true_iff_forall_mem]
  intro e he
  cases hg : edgeB e with
  | false => rw [edgeB_eq] at hg; rw [hg]; rfl
  | true =>
   obtain ⟨q1, q2⟩ := h3 e (by simpa using he) hg
   rw [← edgeB_eq, hg, hd e.on (by simpa using q2), q1]; rfl
 rw [q] at this; cases this
section
variable {fuel done : Nat}
end
end
/-! ## results that stand in boxes -/
def ldO (t a : Nat) : Oper := { dst := none, op := .load t (.tmp a), type := t, pos := "", after := #[], guard := none }
def ResH (X : Cx) (L : List (Nat × AV)) (h : Heap) : List ResultVar → List AV → Prop
 | [], [] => True
 | .tmp t :: r, v :: vs => lkO L t = some v ∧ ResH X L h r vs
 | .cell a t :: r, v :: vs => Hop X L h (ldO t a) v h ∧ ResH X L h r vs
 | _, _ => False
theorem resH_ok {X : Cx} {h : Heap} {L : List (Nat × AV)} {e : T AV} (he : Has e L) : ∀ {res : List ResultVar} {vs : List AV}, ResH X L h res vs → resA X.c h e res = some vs
 | [], [], _ => rfl
 | [], _ :: _, q => q.elim
 | .tmp t :: r, [], q => q.elim
 | .cell a t :: r, [], q => q.elim
 | .tmp t :: r, v :: vs, ⟨q1, q2⟩ => by
  have h1 := resH_ok he q2
  have h2 := he t v q1
  unfold resA at h1 ⊢
  simp only [h2, h1]
 | .cell a t :: r, v :: vs, ⟨q1, q2⟩ => by
  have h1 := resH_ok he q2
  have h2 := q1 e he
  have h3 : oLoad X.c h t (e.get und a) = some v := by
   have h2 : val h (oLoad X.c h t (e.get und a)) = some (.v v h) := h2
   cases q : oLoad X.c h t (e.get und a) with
   | none => rw [q] at h2; cases h2
   | some x => rw [q] at h2; cases h2; rfl
  unfold resA at h1 ⊢
  simp only [h3, h1]
theorem Go.retFc {X : Cx} {sz : Nat} {rd : Option Nat} {k : List It} {L : List (Nat × AV)} {h : Heap} {m : List Nat} {res : List ResultVar} {v : AV} (vs : List AV) {h' : Heap} (hl : leave h m = some h') (hr : ResH X L h' res vs) (hv : one vs = v) (hd : datB v = true) : Go X sz rd (.code .ret :: k) L h m (Fin X.c res v) :=
 Go.ret fun e he => ⟨.inr rfl, h', vs, hl, resH_ok he hr, hv, hd⟩
end Go.Px
end
section
namespace Go.Px
section
variable {X : Cx} {tb : List (Nat × TE)} (E : Env X.c tb) {o : Oper} {L : List (Nat × AV)} {h : Heap}
theorem TOk.ar {c : Ctx} {t n el : Nat} {e : TE} (h : TOk c t e) (k : e.k = .arr n el) : c.under t = some (.array n el) := by
 obtain ⟨d, h1, h2⟩ := h.kd
 rw [k] at h2
 cases d <;> simp only [tkOf] at h2 <;> first | (cases h2; done) | (cases h2; exact h1)
include E in
theorem Hop.buildA {t n el : Nat} {ps : Array (Nat × Operand)} {vals : List (Nat × AV)} {e ee : TE} {z cs : List AV} (ho : o.op = .build t ps) (hps : partsL L ps.toList = some vals) (ht : lkT tb t = some e) (hk : e.k = .arr n el) (hel : lkT tb el = some ee) (hz : e.z = .agg z) (hf : fillA (fun i => some (i * ee.s, ee.s)) vals z = some cs) :
  Hop X L h o (.agg cs) h := fun e' he => by
 have h1 := (E.t t e ht).ar hk
 have h2 := (E.t el ee hel).size
 have h3 := (E.t t e ht).z
 rw [ho]; simp only [opA, parts]
 rw [partsL_ok he hps]
 simp only [oBuild, h3, hz, h1, h2, hf, val]
include E in
theorem Hop.aidx {α : Type} [Inhabited α] {t n el z : Nat} {x i : Operand} {enc : α → List AV} {l : List α} {kk : IntKind} {a : Int} {e ee : TE} (ho : o.op = .index t x i) (hx : evL L x = some (.agg (l.flatMap enc))) (hi : evL L i = some (.int kk a)) (ht : lkT tb t = some e) (hk : e.k = .arr n el) (hel : lkT tb el = some ee) (hag : ee.k.isAgg = true) (hz : Nat.beq ee.s z = true) (henc : ∀ a, (enc a).length = z) (hn : l.length = n) (hr : 0 ≤ a ∧ a < n) :
  Hop X L h o (.agg (enc (l.getD a.toNat default))) h := fun e' he => by
 have h1 := (E.t t e ht).ar hk
 have h2 := (E.t el ee hel).size
 have h3 := (E.t el ee hel).agg
 have hz' := beqT hz
 rw [ho]; simp only [opA]; rw [he.ev hx, he.ev hi]
 simp only [oIndex, h1, inRange_of hr, h2, partA, h3, hag, val, hz']
 rw [flat_at henc default l a.toNat (by omega)]
include E in
theorem Hop.lenH {x : Operand} {t el id off n z : Nat} {cap : Option Nat} {cl : Call} {e : TE} (ho : o.op = .call cl) (hc : cl.callee = .builtin .len) (ha : cl.args.toList = [x]) (hts : nth1 cl.argTypes.toList 0 = some t) (hx : evL L x = some (.sl id off n cap z)) (ht : lkT tb t = some e) (hk : e.k = .slice el) :
  Hop X L h o (.int .i64 (n : Int)) h := len_op ho hc ha hts hx (by simp only [oLen, (E.t t e ht).sl hk]; rfl)
end
end Go.Px
end
section
namespace Go.Px
/-! ## numbers -/
theorem wr_u8m (a : Int) : wr .u8 a = a % 256 := by
 cases a with
 | ofNat n => show Int.ofNat (n % 256) = _; simp
 | negSucc n => show Int.ofNat (256 - 1 - n % 256) = _; rw [Int.negSucc_eq]; simp only [Int.ofNat_eq_natCast]; omega
theorem wr_u64m (a : Int) : wr .u64 a = a % 18446744073709551616 := by
 cases a with
 | ofNat n => show Int.ofNat (n % 18446744073709551616) = _; simp
 | negSucc n => show Int.ofNat (18446744073709551616 - 1 - n % 18446744073709551616) = _; rw [Int.negSucc_eq]; simp only [Int.ofNat_eq_natCast]; omega
def sgn (a : Int) : Int := if a < 9223372036854775808 then a else a - 18446744073709551616
theorem wr_i64s {a : Int} (h : 0 ≤ a ∧ a < 18446744073709551616) : wr .i64 a = sgn a := by
 unfold sgn
 cases a with
 | negSucc n => have := h.1; omega
 | ofNat n =>
  have h2 := h.2
  simp only [Int.ofNat_eq_natCast] at h2 ⊢
  have hm : um .i64 (Int.ofNat n) = n := by show n % 18446744073709551616 = n; omega
  show (match Nat.ble (pw .i64) (2 * um .i64 (Int.ofNat n)) with | false => Int.ofNat (um .i64 (Int.ofNat n)) | true => Int.negSucc (pw .i64 - 1 - um .i64 (Int.ofNat n))) = _
  rw [hm]
  by_cases q : (n : Int) < 9223372036854775808
  ·rw [if_pos q]
   have : Nat.ble (pw .i64) (2 * n) = false := by
    cases hb : Nat.ble (pw .i64) (2 * n) with
    | false => rfl
    | true => have := Nat.le_of_ble_eq_true hb; have e : pw .i64 = 18446744073709551616 := rfl; omega
   rw [this]; rfl
  ·rw [if_neg q]
   have : Nat.ble (pw .i64) (2 * n) = true := Nat.ble_eq_true_of_le (by have e : pw .i64 = 18446744073709551616 := rfl; omega)
   rw [this]
   show Int.negSucc (18446744073709551616 - 1 - n) = _
   rw [Int.negSucc_eq]; omega
theorem xor_low {r : Nat} (h : r < 2 ^ 63) : r ^^^ 2 ^ 63 = 2 ^ 63 + r := by
 apply Nat.eq_of_testBit_eq
 intro j
 rw [Nat.testBit_xor, Nat.testBit_two_pow]
 rcases Nat.lt_trichotomy j 63 with q | q | q
 ·rw [Nat.testBit_two_pow_add_gt q]
  have : (63 = j) = False := by simp; omega
  simp [this]
 ·subst q
  rw [Nat.testBit_two_pow_add_eq]; simp
 ·have h1 : r.testBit j = false := Nat.testBit_lt_two_pow (Nat.lt_of_lt_of_le h (Nat.pow_le_pow_right (by decide) (by omega)))
  have h2 : (2 ^ 63 + r).testBit j = false := by
   apply Nat.testBit_lt_two_pow
   have : 2 ^ 64 ≤ 2 ^ j := Nat.pow_le_pow_right (by decide) (by omega)
   have e : (2 : Nat) ^ 64 = 2 ^ 63 + 2 ^ 63 := by rw [Nat.pow_succ]
   omega
  have : (63 = j) = False := by simp; omega
  rw [h1, h2]; simp [this]
theorem xor_top {n : Nat} (h : n < 18446744073709551616) : n ^^^ 9223372036854775808 = (n + 9223372036854775808) % 18446744073709551616 := by
 have e : (9223372036854775808 : Nat) = 2 ^ 63 := rfl
 by_cases q : n < 9223372036854775808
 ·rw [e, xor_low q, ← e]; omega
 ·have hr : n - 9223372036854775808 < 9223372036854775808 := by omega
  have := xor_low (r := n - 9223372036854775808) hr
  have hn : n = (n - 9223372036854775808) ^^^ 2 ^ 63 := by rw [this, ← e]; omega
  rw [e]
  conv => lhs; rw [hn]
  rw [Nat.xor_assoc, Nat.xor_self, Nat.xor_zero]
  rw [← e]; omega
section
variable {X : Cx} {tb : List (Nat × TE)} (E : Env X.c tb) {o : Oper} {L : List (Nat × AV)} {h : Heap}
theorem Hop.addU {x y : Operand} {t u : Nat} {a b : Int} (ho : o.op = .binOp .add t x y u) (hx : evL L x = some (.int .u64 a)) (hy : evL L y = some (.int .u64 b)) : Hop X L h o (.int .u64 ((a + b) % 18446744073709551616)) h :=
 Hop.bin ho hx hy ⟨by simp, by simp⟩ (by simp only [intOp]; rw [wr_u64m])
theorem Hop.addUs {x y : Operand} {t u : Nat} {a b : Int} (ho : o.op = .binOp .add t x y u) (hx : evL L x = some (.int .u64 a)) (hy : evL L y = some (.int .u64 b)) (hr : 0 ≤ a + b ∧ a + b < 18446744073709551616) : Hop X L h o (.int .u64 (a + b)) h :=
 Hop.bin ho hx hy ⟨by simp, by simp⟩ (by simp only [intOp]; rw [wr_u64 hr])
theorem Hop.subU {x y : Operand} {t u : Nat} {a b : Int} (ho : o.op = .binOp .sub t x y u) (hx : evL L x = some (.int .u64 a)) (hy : evL L y = some (.int .u64 b)) : Hop X L h o (.int .u64 ((a - b) % 18446744073709551616)) h :=
 Hop.bin ho hx hy ⟨by simp, by simp⟩ (by simp only [intOp]; rw [wr_u64m])
theorem Hop.mulU {x y : Operand} {t u : Nat} {a b : Int} (ho : o.op = .binOp .mul t x y u) (hx : evL L x = some (.int .u64 a)) (hy : evL L y = some (.int .u64 b)) : Hop X L h o (.int .u64 ((a * b) % 18446744073709551616)) h :=
 Hop.bin ho hx hy ⟨by simp, by simp⟩ (by simp only [intOp]; rw [wr_u64m])
theorem Hop.quoU {x y : Operand} {t u : Nat} {a b : Int} (ho : o.op = .binOp .quo t x y u) (hx : evL L x = some (.int .u64 a)) (hy : evL L y = some (.int .u64 b)) (hb : ieq b 0 = false) (hr : 0 ≤ a ∧ 0 ≤ a / b ∧ a / b < 18446744073709551616) : Hop X L h o (.int .u64 (a / b)) h :=
 Hop.bin ho hx hy ⟨by simp, by simp⟩ (by simp only [intOp, hb]; rw [Int.tdiv_eq_ediv_of_nonneg hr.1, wr_u64 hr.2])
theorem Hop.remU {x y : Operand} {t u : Nat} {kk : IntKind} {a b : Int} (ho : o.op = .binOp .rem t x y u) (hx : evL L x = some (.int kk a)) (hy : evL L y = some (.int kk b)) (hb : ieq b 0 = false) (hr : 0 ≤ a) : Hop X L h o (.int kk (a % b)) h :=
 Hop.bin ho hx hy ⟨by simp, by simp⟩ (by simp only [intOp, hb]; rw [Int.tmod_eq_emod_of_nonneg hr])
theorem Hop.xorT {x y : Operand} {t u : Nat} {a : Int} (ho : o.op = .binOp .xor t x y u) (hx : evL L x = some (.int .u64 a)) (hy : evL L y = some (.int .u64 9223372036854775808)) (hr : 0 ≤ a ∧ a < 18446744073709551616) : Hop X L h o (.int .u64 ((a + 9223372036854775808) % 18446744073709551616)) h :=
 Hop.bin ho hx hy ⟨by simp, by simp⟩ (by
  cases a with
  | negSucc n => have := hr.1; omega
  | ofNat n =>
   have h2 := hr.2
   simp only [Int.ofNat_eq_natCast] at h2 ⊢
   have e1 : um .u64 (n : Int) = n := by show n % 18446744073709551616 = n; omega
   have e2 : um .u64 9223372036854775808 = 9223372036854775808 := rfl
   have e3 : Nat.xor n 9223372036854775808 = (n + 9223372036854775808) % 18446744073709551616 := xor_top (by omega)
   simp only [intOp, e1, e2]
   rw [e3, wr_u64m]
   refine congrArg (fun z => some (AV.int .u64 z)) ?_
   simp only [Int.ofNat_eq_natCast]; omega)
theorem Hop.orB {x y : Operand} {t u : Nat} {a b : Int} (ho : o.op = .binOp .or t x y u) (hx : evL L x = some (.int .u64 a)) (hy : evL L y = some (.int .u64 b)) (ha : a % 256 = 0) (hr : 0 ≤ a ∧ a < 18446744073709551616) (hb : 0 ≤ b ∧ b < 256) : Hop X L h o (.int .u64 (a + b)) h :=
 Hop.bin ho hx hy ⟨by simp, by simp⟩ (by
  cases a with
  | negSucc n => have := hr.1; omega
  | ofNat n =>
   cases b with
   | negSucc m => have := hb.1; omega
   | ofNat m =>
    have h2 := hr.2
    have h3 := hb.2
    simp only [Int.ofNat_eq_natCast] at h2 h3 ha ⊢
    have e1 : um .u64 (n : Int) = n := by show n % 18446744073709551616 = n; omega
    have e2 : um .u64 (m : Int) = m := by show m % 18446744073709551616 = m; omega
    simp only [intOp, e1, e2]
    have e3 : Nat.lor n m = n + m := by
     show n ||| m = n + m
     have hn : n = (n / 256) <<< 8 := by rw [Nat.shiftLeft_eq]; omega
     have := Nat.shiftLeft_add_eq_or_of_lt (i := 8) (b := m) (by omega) (n / 256)
     rw [← hn] at this
     exact this.symm
    rw [e3]
    refine congrArg (fun z => some (AV.int .u64 z)) ?_
    rw [wr_u64 (by simp only [Int.ofNat_eq_natCast]; omega)]
    simp only [Int.ofNat_eq_natCast]; omega)
theorem opA_shift {x y : Operand} {op : BinOp} {t u : Nat} {kk kj : IntKind} {a b : Int} {v : AV} (ho : o.op = .binOp op t x y u) (hx : evL L x = some (.int kk a)) (hy : evL L y = some (.int kj b)) (hs : op = .shl ∨ op = .shr) (hv : shiftOp op kk a b = some v) : Hop X L h o v h := fun e he => by
 rw [ho]; simp only [opA]; rw [he.ev hx, he.ev hy]
 have : oBinX X.c op t (constB x y) (.int kk a) (.int kj b) = shiftOp op kk a b := by
  unfold oBinX oBin
  rcases hs with rfl | rfl <;> simp only []
 rw [this, hv]; rfl
theorem Hop.shrN {x y : Operand} {t u : Nat} {kj : IntKind} {a b : Int} (ho : o.op = .binOp .shr t x y u) (hx : evL L x = some (.int .u64 a)) (hy : evL L y = some (.int kj b)) (ha : 0 ≤ a) (hb : 0 ≤ b ∧ b < 64) : Hop X L h o (.int .u64 (a / 2 ^ b.toNat)) h :=
 opA_shift ho hx hy (.inr rfl) (by
  cases a with
  | negSucc n => omega
  | ofNat n =>
   cases b with
   | negSucc m => have := hb.1; omega
   | ofNat m =>
    have h3 := hb.2
    simp only [Int.ofNat_eq_natCast] at h3
    show some (AV.int .u64 (Int.ofNat (n >>> (Min.min m 64)))) = _
    rw [Nat.min_eq_left (by omega), Nat.shiftRight_eq_div_pow]
    refine congrArg (fun z => some (AV.int .u64 z)) ?_
    show ((n / 2 ^ m : Nat) : Int) = (n : Int) / 2 ^ m
    rw [Int.natCast_ediv, Int.natCast_pow]; rfl)
theorem Hop.shl8 {x y : Operand} {t u : Nat} {kj : IntKind} {a : Int} (ho : o.op = .binOp .shl t x y u) (hx : evL L x = some (.int .u64 a)) (hy : evL L y = some (.int kj 8)) (ha : 0 ≤ a) : Hop X L h o (.int .u64 ((a * 256) % 18446744073709551616)) h :=
 opA_shift ho hx hy (.inl rfl) (by
  cases a with
  | negSucc n => omega
  | ofNat n =>
   show some (AV.int .u64 (wr .u64 (Int.ofNat (n <<< 8)))) = _
   rw [wr_u64m, Nat.shiftLeft_eq]
   refine congrArg (fun z => some (AV.int .u64 z)) ?_
   simp only [Int.ofNat_eq_natCast]; omega)
include E in
theorem Hop.convU8 {s t : Nat} {x : Operand} {k1 : IntKind} {a : Int} {es e : TE} (ho : o.op = .convert s t x) (hx : evL L x = some (.int k1 a)) (hs : lkT tb s = some es) (ht : lkT tb t = some e) (hk : e.k = .int .u8) : Hop X L h o (.int .u8 (a % 256)) h := fun e' he => by
 obtain ⟨d, h1, _⟩ := (E.t s es hs).kd
 have h2 := (E.t t e ht).it hk
 rw [ho]; simp only [opA]; rw [he.ev hx]
 simp only [oConvert, h1, h2, wr_u8m, valH]
include E in
theorem Hop.convU64 {s t : Nat} {x : Operand} {k1 : IntKind} {a : Int} {es e : TE} (ho : o.op = .convert s t x) (hx : evL L x = some (.int k1 a)) (hs : lkT tb s = some es) (ht : lkT tb t = some e) (hk : e.k = .int .u64) : Hop X L h o (.int .u64 (a % 18446744073709551616)) h := fun e' he => by
 obtain ⟨d, h1, _⟩ := (E.t s es hs).kd
 have h2 := (E.t t e ht).it hk
 rw [ho]; simp only [opA]; rw [he.ev hx]
 simp only [oConvert, h1, h2, wr_u64m, valH]
include E in
theorem Hop.convI64 {s t : Nat} {x : Operand} {k1 : IntKind} {a : Int} {es e : TE} (ho : o.op = .convert s t x) (hx : evL L x = some (.int k1 a)) (hs : lkT tb s = some es) (ht : lkT tb t = some e) (hk : e.k = .int .i64) (hr : 0 ≤ a ∧ a < 18446744073709551616) : Hop X L h o (.int .i64 (sgn a)) h := fun e' he => by
 obtain ⟨d, h1, _⟩ := (E.t s es hs).kd
 have h2 := (E.t t e ht).it hk
 rw [ho]; simp only [opA]; rw [he.ev hx]
 simp only [oConvert, h1, h2, wr_i64s hr, valH]
/-! ## cuts, texts -/
include E in
theorem Hop.cut {α : Type} {t el : Nat} {x lo hi : Operand} {z : Nat} {enc : α → List AV} {l : List α} {kk kj : IntKind} {a b : Int} {e s : TE} (ho : o.op = .slice t x (some lo) (some hi) none) (hx : evL L x = some (dsl z enc l)) (hlo : evL L lo = some (.int kk a)) (hhi : evL L hi = some (.int kj b))
  (ht : lkT tb t = some e) (hk : e.k = .slice el) (hs : lkT tb el = some s) (hz : Nat.beq s.s z = true) (henc : ∀ a, (enc a).length = z) (hr : 0 ≤ a ∧ a ≤ b ∧ b ≤ l.length) : Hop X L h o (dsl z enc ((l.drop a.toNat).take (b.toNat - a.toNat))) h := fun e' he => by
 have h1 := (E.t t e ht).sl hk
 have h2 := (E.t el s hs).size
 rw [ho]; simp only [opA, evo]; rw [he.ev hx, he.ev hlo, he.ev hhi]
 have : oSlice X.c t (dsl z enc l) (some (.int kk a)) (some (.int kj b)) none = some (dsl z enc ((l.drop a.toNat).take (b.toNat - a.toNat))) := by
  simp only [oSlice, h1, h2, dsl, hz, cutRsl, optInt, upTo_of (show 0 ≤ b ∧ b ≤ (l.length : Nat) by omega), upTo_of (show 0 ≤ a ∧ a ≤ (b.toNat : Nat) by omega)]
  rw [flat_drop henc, flat_take henc, List.length_take, List.length_drop, Nat.min_eq_left (by omega)]
 simp only [oSliceH, this, Px.val]
theorem bytesA_enc : ∀ l : List UInt8, bytesA (l.flatMap encU) = some (l.map UInt8.toNat)
 | [] => rfl
 | c :: l => by
  have ih := bytesA_enc l
  show byte1 (.int .u8 (c.toNat : Int)) (bytesA (l.flatMap encU)) = _
  rw [ih]
  have := c.toNat_lt
  show byte1 (.int .u8 (Int.ofNat c.toNat)) _ = _
  unfold byte1
  simp only []
  first
   | rfl
   | (rw [show Nat.ble (c.toNat + 1) 256 = true from Nat.ble_eq_true_of_le (by omega)]; rfl)
include E in
theorem Hop.str {s t el : Nat} {x : Operand} {l : List UInt8} {es e ee : TE} (ho : o.op = .convert s t x) (hx : evL L x = some (dsl 1 encU l)) (hst : lkT tb s = some es) (hks : es.k = .slice el) (hel : lkT tb el = some ee) (hkel : ee.k = .int .u8) (ht : lkT tb t = some e) (hk : e.k = .str) : Hop X L h o (sA l) h := fun e' he => by
 have h1 := (E.t t e ht).st hk
 have h2 := (E.t s es hst).sl hks
 have h3 := (E.t el ee hel).it hkel
 rw [ho]; simp only [opA]; rw [he.ev hx]
 simp only [dsl, oConvert, h1, h2, h3, bytesA_enc, valH, Nat.beq_refl]; rfl
include E in
theorem Hop.strN {s t el : Nat} {x : Operand} {es e ee : TE} (ho : o.op = .convert s t x) (hx : evL L x = some .nilsl) (hst : lkT tb s = some es) (hks : es.k = .slice el) (hel : lkT tb el = some ee) (hkel : ee.k = .int .u8) (ht : lkT tb t = some e) (hk : e.k = .str) : Hop X L h o (sA []) h := fun e' he => by
 have h1 := (E.t t e ht).st hk
 have h2 := (E.t s es hst).sl hks
 have h3 := (E.t el ee hel).it hkel
 rw [ho]; simp only [opA]; rw [he.ev hx]
 simp only [oConvert, h1, h2, h3, valH]; rfl
include E in
theorem Hop.idxP {t n el : Nat} {x i : Operand} {id off : Nat} {kk : IntKind} {a : Int} {e ee : TE} (ho : o.op = .indexAddr t x i) (hx : evL L x = some (.ptr id off)) (hi : evL L i = some (.int kk a)) (ht : lkT tb t = some e) (hk : e.k = .arr n el) (hel : lkT tb el = some ee) (hr : 0 ≤ a ∧ a < n) : Hop X L h o (.ptr id (off + a.toNat * ee.s)) h := fun e' he => by
 have h1 := (E.t t e ht).ar hk
 have h2 := (E.t el ee hel).size
 rw [ho]; simp only [opA]; rw [he.ev hx, he.ev hi]
 simp only [oIndexAddr, h1, h2, inRange_of hr, val]
include E in
theorem Hop.sliceP {t n el : Nat} {x : Operand} {id : Nat} {e ee : TE} (ho : o.op = .slice t x none none none) (hx : evL L x = some (.ptr id 0)) (ht : lkT tb t = some e) (hk : e.k = .arr n el) (hel : lkT tb el = some ee) (hz : Nat.beq ee.s 0 = false) (hn : Nat.beq n 0 = false) : Hop X L h o (.sl id 0 n (some n) ee.s) h := fun e' he => by
 have h1 := (E.t t e ht).ar hk
 have h2 := (E.t el ee hel).size
 rw [ho]; simp only [opA, evo]; rw [he.ev hx]
 have : oSlice X.c t (.ptr id 0) none none none = some (.sl id 0 n (some n) ee.s) := by
  simp only [oSlice, h1, h2, optInt, hz, hn, Nat.zero_mul, Nat.zero_add, Nat.sub_zero]
 simp only [oSliceH, this, Px.val]
end
end Go.Px
end
section
namespace Go.Px
theorem dat_at : ∀ (l : List AV) (i : Nat), datsB l = true → i < l.length → datB (l.getD i .bad) = true := by
 intro l
 induction l with
 | nil => intro i _ hi; simp at hi
 | cons a l ih =>
  intro i hl hi
  simp only [datsB] at hl
  split at hl
  ·rename_i ha
   cases i with
   | zero => exact ha
   | succ i => exact ih i hl (by simpa using hi)
  ·cases hl
section
variable {X : Cx} {tb : List (Nat × TE)} (E : Env X.c tb) {sz : Nat} {rd : Option Nat} {all : Array Oper} {o : Oper} {rest : List Oper} {k : List It} {L : List (Nat × AV)} {h : Heap} {m : List Nat} {Q : Post}
include E
theorem Ops.bsliceTok {N d t el len z : Nat} {ps : Array (Nat × Operand)} {vals : List (Nat × AV)} {e ee : TE} {cs zc : List AV} (hd : o.dst = some d) (hs : Nat.ble (d + 1) sz = true) (hw : Want all L o true) (ho : o.op = .buildSlice t len ps) (hps : partsL L ps.toList = some vals) (ht : lkT tb t = some e) (hk : e.k = .slice el) (hel : lkT tb el = some ee) (hl0 : Nat.beq len 0 = false)
  (hzc : (match ee.z with | .bad => none | v => some v.cells) = some zc) (hsz : Nat.beq ee.s zc.length = true) (hez : Nat.beq ee.s z = true) (hz0 : Nat.beq z 0 = false) (h6 : Nat.ble (len * ee.s) 1000000 = true) (hf : fillA (fun i => some (i * ee.s, ee.s)) vals (reps len zc) = some cs) (hdt : datsB cs = true) (hcl : Nat.beq cs.length (len * z) = true)
  (hg : h.get N = .arr el z 0 []) (hi : HInd N h) (hL : indL N L = true) (hm : (m.all fun i => !Nat.beq i N) = true) (hrd : rdNot N rd = true) (hG : indsB N X.gv = true)
  (nx : Ops X sz rd all rest k ((d, .own N len z) :: L) (h.put N (.arr el z len cs)) m Q) : Ops X sz rd all (o :: rest) k L h m Q := ⟨fun e0 he => by
 refine TriOps.cons (hw e0 he) (K := fun s' => RunK X sz rd k Q .normal s') ?_
 intro ro ρ w a next Q' h1 p h3 h4 h5
 refine ⟨fun _ _ => trivial, ?_⟩
 rw [show (wideR ro).round = ro from rfl, Oper.semAt_eq ro a.eval o (by rw [ho]; intro d q; cases q)]
 obtain ⟨ie, i1, i2, i3⟩ := (E.t el ee hel).si
 have hez := beqT hez
 have hz0 := beqN hz0
 have hcl := beqT hcl
 have hl0 := beqN hl0
 have hsz' := beqT hsz
 have hzc' : X.c.zcells el = some zc := by
  unfold Ctx.zcells
  rw [(E.t el ee hel).z]
  cases hv : ee.z <;> rw [hv] at hzc <;> first | (cases hzc; done) | exact hzc
 obtain ⟨it, Z, z1, z2, z3, z4⟩ := zcells_ok E.k hzc' ρ
 rw [i1] at z4; cases z4
 have hu := under_eq E.k ((E.t t e ht).sl hk)
 have hp := parts_ok h3 ps
 rw [show parts e0 ps = vals from partsL_ok he hps] at hp
 have hmade := made_ok z3 len (by rw [← hsz', hez]; exact hz0)
 rw [← hsz'] at hmade
 have hnz : len * ee.s ≠ 0 := Nat.mul_ne_zero hl0 (by rw [hez]; exact hz0)
 obtain ⟨R, r1, r2⟩ := fill_ok vals (ps.map fun (i, x) => (i, a.eval x)).toList _ _ cs hp hmade hf
 have hrun0 := run_buildSlice (P := X.c.P) w t el len (ps.map fun (i, x) => (i, a.eval x)) R ie Z hu z1 z2 (by rw [i2]; have := bleT h6; omega) (by rw [i2]; exact hnz) (by rw [i2]; exact r1)
 have hlen := r2.length
 have gr := newRow_ok p.hr p.wf (p.fr.1 _ (Nat.le_refl _)) el cs.length cs R (by simpa using whole r2 el) (by simpa using hlen)
 have hget : (newRow h el cs.length .leaf cs).get h.nxt = .row ⟨el, cs.length, .leaf, cs, none⟩ := by show (h.new _).get _ = _; rw [Heap.get_new, if_pos rfl]
 have hro := gr.hr.ok h.nxt _ _ (upd_same _ _ _) (by unfold Heap.ok; rw [hget]; simp only []; rw [Heap.row_of hget]; rfl)
 rw [hget] at hro
 have hro : RowOk _ ⟨el, cs.length, .leaf, cs, none⟩ _ _ _ := hro
 have hRs : R.size = cs.length := by simpa using hlen.symm
 simp only [hRs] at hro
 have hrow : RowOk ρ.d ⟨el, len * z, .leaf, cs, none⟩ w.heap.size cs.length (w.alloc (.cells R el)) := by
  refine ⟨hro.1, by show len * z ≤ _; rw [hcl]; exact Nat.le_refl _, hro.2.2.1, fun j hj => ?_⟩
  have hj : j < cs.length := by rw [hcl]; exact hj
  obtain ⟨v, v1, v2⟩ := hro.2.2.2 j hj
  refine ⟨v, v1, ?_⟩
  have e1 := row_at_i (t := el) (cs := cs) (j := j) hj
  rw [e1] at v2
  have e2 : Row.get ⟨el, len * z, .leaf, cs, none⟩ j = cs.getD j .bad := by
   have := row_at_i (t := el) (cs := cs) (j := j) hj
   rw [hcl] at this
   exact this
  rw [e2]
  exact dat_ok (ρ := upd ρ h.nxt (w.heap.size, cs.length)) _ (dat_at cs j hdt hj) v2
 obtain ⟨ρ', r1', r2', r3'⟩ := p.setArr (w' := w.alloc (.cells R el)) (n' := len) (l' := cs) (B := w.heap.size) (C := len) hg hi hG (by omega) hcl (Nat.le_refl len) (N := cs.length) hcl.symm hrow ⟨rfl, rfl, rfl, by rw [World.size_alloc]; omega⟩ (.inr ⟨rfl, World.size_alloc _ _, fun D hD => by
  show (w.heap.push _)[D]? = _
  rw [Array.getElem?_push, if_neg (by omega)]⟩)
 have hrun : (execOp a.eval o).run X.c.P w = .ok (.value (.slice (some ⟨w.heap.size, 0, none⟩) len len)) (w.alloc (.cells R el)) := by
  simp only [execOp, ho]
  simp [Sem.run_bind, hrun0]
 rw [hrun]
 obtain ⟨e', he', er'⟩ := known_env (σ := ρ') (L := L) (tm := a.tmps) (sz := sz) h3.1 (fun s v qq => by
  have := h3.2 s
  rw [he s v qq] at this
  exact ind_ok r2' v (indL_at hL s v qq) this)
 refine h5 (.own N len z) ⟨e', _, m⟩ _ _ ρ' ⟨e'.set und d (.own N len z), by rw [hd]; exact setD_some hs, nx.run _ (he'.set d _)⟩ ?_ r1' er' ?_ r3'
 ·cases rd with
  | none => exact h1
  | some r =>
   obtain ⟨B', N', q1, q2⟩ := h1
   exact ⟨B', N', r2'.m r _ (nb (show (!Nat.beq r N) = true from hrd)) q1, q2⟩
 ·have hmr : ∀ {m : List Nat} {D : List Deferred}, (m.all fun i => !Nat.beq i N) = true → MR ρ m D → MR ρ' m D := by
   intro m
   induction m with
   | nil => intro D _ q; exact q
   | cons d m ih =>
    intro D hh q
    simp only [List.all_cons, Bool.and_eq_true] at hh
    obtain ⟨B, N, r, q1, q2, q3⟩ := q
    exact ⟨B, N, r, r2'.m d _ (nb hh.1) q1, ih hh.2 q2, q3⟩
  obtain ⟨D1, h5, h6⟩ := h4
  exact ⟨D1, hmr hm h5, h6⟩⟩
theorem Ops.bsliceOwn (N : Nat) {d t el len z : Nat} {ps : Array (Nat × Operand)} {vals : List (Nat × AV)} {e ee : TE} {cs zc : List AV} (hd : o.dst = some d) (hs : Nat.ble (d + 1) sz = true) (hw : Want all L o true) (ho : o.op = .buildSlice t len ps) (hps : partsL L ps.toList = some vals) (ht : lkT tb t = some e) (hk : e.k = .slice el) (hel : lkT tb el = some ee) (hl0 : Nat.beq len 0 = false)
  (hN : h.nxt = N) (hzc : (match ee.z with | .bad => none | v => some v.cells) = some zc) (hsz : Nat.beq ee.s zc.length = true) (hez : Nat.beq ee.s z = true) (hz0 : Nat.beq z 0 = false) (h6 : Nat.ble (len * ee.s) 1000000 = true) (hf : fillA (fun i => some (i * ee.s, ee.s)) vals (reps len zc) = some cs) (hdt : datsB cs = true) (hcl : Nat.beq cs.length (len * z) = true)
  (hi : HInd N (newAt N h (.arr el z 0 []))) (hL : indL N L = true) (hm : (m.all fun i => !Nat.beq i N) = true) (hrd : rdNot N rd = true) (hG : indsB N X.gv = true)
  (nx : Ops X sz rd all rest k ((d, .own N len z) :: L) ((newAt N h (.arr el z 0 [])).put N (.arr el z len cs)) m Q) (hgz : X.g = none ∨ Nat.ble 1 N = true := by first | exact .inl rfl | exact .inr rfl) : Ops X sz rd all (o :: rest) k L h m Q :=
 Ops.change (Chg.tokNew N el z hN hgz) (Ops.bsliceTok E hd hs hw ho hps ht hk hel hl0 hzc hsz hez hz0 h6 hf hdt hcl (by subst hN; rw [← new_at rfl, Heap.get_new, if_pos rfl]) hi hL hm hrd hG nx)
end
theorem wk_refl {h : Heap} : ∀ l : List AV, wkA h l l
 | [] => trivial
 | a :: l => ⟨.inl rfl, wk_refl l⟩
theorem wk_eq {h : Heap} {l m : List AV} (e : l = m) : wkA h l m := e ▸ wk_refl l
end Go.Px
end
section
namespace Go.Px
section
variable {X : Cx} {sz : Nat} {rd : Option Nat} {all : Array Oper} {rest : List Oper} {k : List It} {L : List (Nat × AV)} {h : Heap} {m : List Nat} {Q : Post} {o : Oper}
theorem Hop.nilC {x : Operand} {id off : Nat} (ho : o.op = .nilCheck x) (hx : evL L x = some (.ptr id off)) : Hop X L h o (.ptr id off) h := fun e he => by
 rw [ho]; simp only [opA]; rw [he.ev hx]; rfl
theorem Go.condNp {t : Nat} {c d : Code} {p : Prop} (hb : lkO L t = some (.bool (!bd p))) (hp : p) (g2 : Go X sz rd (.code d :: k) ((t, .bool false) :: L) h m Q) : Go X sz rd (.code (.cond (.tmp t) c d) :: k) L h m Q := Go.condNt hb (fun q => absurd hp q) fun _ => g2
theorem Go.condNn {t : Nat} {c d : Code} {p : Prop} (hb : lkO L t = some (.bool (!bd p))) (hp : ¬ p) (g1 : Go X sz rd (.code c :: k) ((t, .bool true) :: L) h m Q) : Go X sz rd (.code (.cond (.tmp t) c d) :: k) L h m Q := Go.condNt hb (fun _ => g1) fun q => absurd q hp
theorem Ops.gNp {d : Nat} {p : Prop} (hg : gslot all rest = some d) (hb : lkO L d = some (.bool (!bd p))) (hp : p) (n2 : Ops X sz rd all rest k ((d, .bool false) :: L) h m Q) : Ops X sz rd all rest k L h m Q := Ops.gN hg hb (fun q => absurd hp q) fun _ => n2
theorem Ops.gNn {d : Nat} {p : Prop} (hg : gslot all rest = some d) (hb : lkO L d = some (.bool (!bd p))) (hp : ¬ p) (n1 : Ops X sz rd all rest k ((d, .bool true) :: L) h m Q) : Ops X sz rd all rest k L h m Q := Ops.gN hg hb (fun _ => n1) fun q => absurd q hp
end
end Go.Px
end
section
namespace Go.Px
theorem Go.retMc {X : Cx} {sz : Nat} {rd : Option Nat} {k : List It} {L : List (Nat × AV)} {h : Heap} {m : List Nat} {res : List ResultVar} {v : AV} {bs' : List MB} (vs : List AV) {h' : Heap} (hl : leave h m = some h') (hr : ResH X L h' res vs) (hv : one vs = v) (hb : MbsAt h' bs' 0) (hn : Nat.ble bs'.length h'.nxt = true) : Go X sz rd (.code .ret :: k) L h m (FinM X.c res v bs') :=
 Go.ret fun e he => ⟨.inr rfl, h', vs, hl, resH_ok he hr, hv, hb, hn⟩
end Go.Px
end
section
namespace Go.Px
noncomputable def badH : Heap := (bare 0).put 0 (.arr 0 0 0 [])
theorem badH_no {X : Cx} {ρ : Map} {w : World} (p : PI X ρ badH w) : False := by
 have := p.wf.fresh 0 (Nat.le_refl _)
 rw [show badH.get 0 = .arr 0 0 0 [] by unfold badH; rw [Heap.get_put, if_pos rfl]] at this
 cases this
def vacK : List It → Bool
 | .code _ :: _ => true
 | .lp _ :: _ => true
 | .blk _ :: k => vacK k
 | [] => false
theorem runK_bad {X : Cx} {sz : Nat} {rd : Option Nat} {Q : Post} {e : T AV} {m : List Nat} : ∀ {k : List It}, vacK k = true → RunK X sz rd k Q .normal ⟨e, badH, m⟩
 | .code c :: k, _ => fun ro ρ w a Q' h1 h2 h3 h4 h5 => (badH_no h2).elim
 | .lp c :: k, _ => fun ro ρ w a Q' h1 h2 h3 h4 h5 => (badH_no h2).elim
 | .blk id :: k, h => runK_bad (k := k) h
 | [], h => by cases h
theorem Go.bad {X : Cx} {sz : Nat} {rd : Option Nat} {k : List It} {L : List (Nat × AV)} {m : List Nat} {Q : Post} (hk : vacK k = true) : Go X sz rd k L badH m Q := ⟨fun e he => runK_bad hk⟩
noncomputable def HP (P : Nat → Prop) (H : Nat → Heap) (j : Nat) : Heap := bif bd (P j) then H j else badH
theorem HP_t {P : Nat → Prop} {H : Nat → Heap} {j : Nat} (h : P j) : HP P H j = H j := by unfold HP; rw [bd_of h]; rfl
theorem HP_f {P : Nat → Prop} {H : Nat → Heap} {j : Nat} (h : ¬ P j) : HP P H j = badH := by unfold HP; rw [bd_no h]; rfl
theorem Go.rangeP {X : Cx} {tb : List (Nat × TE)} (E : Env X.c tb) {sz : Nat} {k : List It} {L : List (Nat × AV)} {h : Heap} {m : List Nat} {Q : Post} (n : Nat) {f : Operand} {ps : Array Tmp} {assign body : Code} {g : FuncId} {cap : List AV} {items : List (List AV)} (hn : h.nxt = n) (hfv : evL L f = some (.fn (.func g) [] cap)) (hdat : datsB cap = true) (hk : KIt X.c g cap items) (hon : onceB L = true)
  (P : Nat → Prop) (H : Nat → Heap) (p0 : P 0) (h0 : ∀ b, ChgE (XH X L n m b) (newAt n h (.dfr true)) (H 0)) (hps : ∀ (j : Nat) (v : List AV), items[j]? = some v → Nat.beq ps.toList.length v.length = true) (hps2 : (ps.toList.all fun p => Nat.ble (p + 1) sz) = true)
  (hbody : ∀ (j : Nat) (v : List AV), items[j]? = some v → P j → ∀ b, Go (XH X L n m b) sz none [.code assign] (setL ps.toList v L) (H j) [] (QA X sz k L n m Q (HP P H (j + 1)) body)) (hv : vacK k = true)
  (nx : P items.length → Go X sz none k L (H items.length) (n :: m) Q) (hro : X.ro = none := by rfl) (hgn : X.g = none ∨ ∃ t z q l, h.get 0 = .arr t z q l := by first | exact .inl rfl | exact .inr ⟨_, _, _, _, rfl⟩) :
  Go X sz none (.code (.rangeFunc f ps assign body) :: k) L h m Q := by
 refine Go.rangeK E n hn hfv hdat hk hon (HP P H) (fun b => by rw [HP_t p0]; exact h0 b) hps hps2 (fun j v hj b => ?_) ?_ hro hgn
 ·by_cases q : P j
  ·rw [HP_t (H := H) q]; exact hbody j v hj q b
  ·rw [HP_f (H := H) q]; exact Go.bad rfl
 ·by_cases q : P items.length
  ·rw [HP_t (H := H) q]; exact nx q
  ·rw [HP_f (H := H) q]; exact Go.bad hv
/-! ## ways that meet again -/
def Mid (L' : List (Nat × AV)) (h' : Heap) (m : List Nat) : Post := fun x s => x = .normal ∧ ∃ e, s = ⟨e, h', m⟩ ∧ Has e L'
theorem Go.mid {X : Cx} {sz : Nat} {rd : Option Nat} {k : List It} {L : List (Nat × AV)} {h : Heap} {m : List Nat} {Q : Post} {c : Code} (L' : List (Nat × AV)) (h' : Heap) (n1 : Go X sz rd [.code c] L h m (Mid L' h' m)) (n2 : Go X sz rd k L' h' m Q) : Go X sz rd (.code c :: k) L h m Q := ⟨fun e he =>
 (show Tri X sz rd c ⟨e, h, m⟩ (Mid L' h' m) from n1.run e he).mono fun x s' q => by
  obtain ⟨rfl, e', rfl, he'⟩ := q
  exact n2.run e' he'⟩
theorem Go.midE {X : Cx} {sz : Nat} {rd : Option Nat} {L L' : List (Nat × AV)} {h : Heap} {m : List Nat} (hs : SubL L L') : Go X sz rd [] L h m (Mid L' h m) := Go.nil fun e he => ⟨rfl, e, rfl, he.sub hs⟩
end Go.Px
end
section
namespace Go.Px
def selL (base : List (Nat × AV)) (D : Nat) : List (Nat × Nat × Nat × AV) → List (Nat × AV)
 | [] => base
 | (i, u, p) :: r => match bitB (2 * D + 1) i with | true => (match bitB (2 * D + 1) u with | true => selL base D r | false => p :: selL base D r) | false => selL base D r
theorem TriOps.mono {X : Cx} {sz : Nat} {rd : Option Nat} {all : Array Oper} {rest : List Oper} {s : St} {K K' : St → Prop} (h : TriOps X sz rd all rest s K) (g : ∀ s', K s' → K' s') : TriOps X sz rd all rest s K' :=
 fun is his ro ρ w a Q' h1 h2 h3 h4 h5 => h is his ro ρ w a Q' h1 h2 h3 h4 (fun s' a' w' ρ' q => h5 s' a' w' ρ' (g s' q))
def eqN : List Nat → List Nat → Bool
 | [], [] => true
 | a :: l, b :: r => Nat.beq a b && eqN l r
 | _, _ => false
theorem eqN_eq : ∀ {l r : List Nat}, eqN l r = true → l = r
 | [], [], _ => rfl
 | a :: l, b :: r, h => by
  have h : (Nat.beq a b && eqN l r) = true := h
  rw [Bool.and_eq_true] at h
  rw [beqT h.1, eqN_eq h.2]
 | [], _ :: _, h => by cases h
 | _ :: _, [], h => by cases h
noncomputable def lvChk (ops : List Oper) (Df : Nat) : List (List (Nat × List Nat)) → Bool
 | [] => false
 | l :: r => match r with
  | [] => l.all fun p => Nat.beq p.1 Df && eqN (rdy ops p.1) []
  | l2 :: _ => (l.all fun p => (match p.2 with | [] => false | _ :: _ => true) && eqN (rdy ops p.1) p.2 && p.2.all fun i => l2.any fun E => Nat.beq E.1 (orB p.1 (bit1 i))) && lvChk ops Df r
section
variable (X : Cx) (sz : Nat) (rd : Option Nat) (all : Array Oper) (m : List Nat) (Lf : Nat → List (Nat × AV)) (Hf : Nat → Heap)
def DagO (D : Nat) : List Nat → Prop
 | [] => True
 | i :: r => (∃ o, nth1 all.toList i = some o ∧ Ops X sz rd all [o] [] (Lf D) (Hf D) m (Mid (Lf (orB D (bit1 i))) (Hf (orB D (bit1 i))) m)) ∧ DagO D r
def DagL : List (Nat × List Nat) → Prop
 | [] => True
 | p :: r => DagO X sz rd all m Lf Hf p.1 p.2 ∧ DagL r
def DagV : List (List (Nat × List Nat)) → Prop
 | [] => True
 | l :: r => DagL X sz rd all m Lf Hf l ∧ DagV r
end
section
variable {X : Cx} {sz : Nat} {rd : Option Nat} {all : Array Oper} {m : List Nat} {Lf : Nat → List (Nat × AV)} {Hf : Nat → Heap}
theorem DagO.at_ {D : Nat} : ∀ {l : List Nat}, DagO X sz rd all m Lf Hf D l → ∀ i ∈ l, ∃ o, nth1 all.toList i = some o ∧ Ops X sz rd all [o] [] (Lf D) (Hf D) m (Mid (Lf (orB D (bit1 i))) (Hf (orB D (bit1 i))) m)
 | [], _, i, hi => by cases hi
 | j :: r, h, i, hi => by
  rcases List.mem_cons.1 hi with rfl | hi
  ·exact h.1
  ·exact DagO.at_ h.2 i hi
theorem DagL.at_ : ∀ {l : List (Nat × List Nat)}, DagL X sz rd all m Lf Hf l → ∀ p ∈ l, DagO X sz rd all m Lf Hf p.1 p.2
 | [], _, i, hi => by cases hi
 | j :: r, h, i, hi => by
  rcases List.mem_cons.1 hi with rfl | hi
  ·exact h.1
  ·exact DagL.at_ h.2 i hi
theorem dag_run {Df : Nat} : ∀ (Lv : List (List (Nat × List Nat))) (l : List (Nat × List Nat)), lvChk all.toList Df (l :: Lv) = true → DagV X sz rd all m Lf Hf (l :: Lv) → ∀ p ∈ l, Go X sz rd [] (Lf p.1) (Hf p.1) m (AnyQ X sz rd all Lv.length p.1 [] (Mid (Lf Df) (Hf Df) m))
 | [], l, hc, _, p, hD => by
  have hc : (l.all fun p => Nat.beq p.1 Df && eqN (rdy all.toList p.1) []) = true := hc
  have := List.all_eq_true.1 hc p hD
  rw [Bool.and_eq_true] at this
  obtain ⟨h1, h2⟩ := this
  rw [beqT h1] at h2 ⊢
  exact Go.anyEnd (eqN_eq h2) (Go.nil fun e he => ⟨rfl, e, rfl, he⟩)
 | l2 :: r, l, hc, H, p, hD => by
  have hc : ((l.all fun p => (match p.2 with | [] => false | _ :: _ => true) && eqN (rdy all.toList p.1) p.2 && p.2.all fun i => l2.any fun E => Nat.beq E.1 (orB p.1 (bit1 i))) && lvChk all.toList Df (l2 :: r)) = true := hc
  rw [Bool.and_eq_true] at hc
  obtain ⟨hc1, hc2⟩ := hc
  have ih := dag_run r l2 hc2 H.2
  have hq := List.all_eq_true.1 hc1 p hD
  rw [Bool.and_eq_true, Bool.and_eq_true] at hq
  obtain ⟨⟨q1, q0⟩, q2⟩ := hq
  have hO := DagL.at_ H.1 p hD
  have q0 := eqN_eq q0
  obtain ⟨D, rs⟩ := p
  cases rs with
  | nil => cases q1
  | cons i0 r0 =>
   refine Go.anyStep (ready_ne q0) fun i hi => ?_
   rw [q0] at hi
   obtain ⟨o, ho, n⟩ := hO.at_ i hi
   refine ⟨o, ho, ⟨fun e he => (n.run e he).mono fun s' q => ?_⟩⟩
   have q3 := List.all_eq_true.1 q2 i hi
   obtain ⟨E, hE, hE2⟩ := List.any_eq_true.1 q3
   have g := ih E hE
   rw [beqT hE2] at g
   obtain ⟨_, e', rfl, he'⟩ : Mid (Lf (orB D (bit1 i))) (Hf (orB D (bit1 i))) m .normal s' := q
   exact g.run e' he'
theorem Go.dag {k : List It} {L : List (Nat × AV)} {h : Heap} {Q : Post} {id : Nat} (Df : Nat) (hm : X.c.P.follows .mixedOrders = true) (Lf : Nat → List (Nat × AV)) (Hf : Nat → Heap) (rs : List Nat) (Lv : List (List (Nat × List Nat))) (hc : lvChk all.toList Df ([(0, rs)] :: Lv) = true) (hn : Nat.beq Lv.length all.toList.length = true) (hL : SubL L (Lf 0)) (hh : h = Hf 0)
  (H : DagV X sz rd all m Lf Hf ([(0, rs)] :: Lv)) (n2 : Go X sz rd k (Lf Df) (Hf Df) m Q) : Go X sz rd (.code (.region id all true) :: k) L h m Q := by
 subst hh
 refine Go.mid (Lf Df) (Hf Df) (Go.anyD hm ?_) n2
 have := dag_run Lv [(0, rs)] hc H (0, rs) (List.mem_singleton.2 rfl)
 rw [beqT hn] at this
 exact Go.sub hL this
theorem Ops.midE {L L' : List (Nat × AV)} {h : Heap} (hs : SubL L L') : Ops X sz rd all [] [] L h m (Mid L' h m) := Ops.nil (Go.midE hs)
theorem Ops.midQ {L L' : List (Nat × AV)} {h : Heap} {bs : List AB} {N : Nat} (hg : ∀ i r, X.c.g0.get i ≠ .gl r) (hN : bs.length = N) (hs : SubL L L') (hlow : lowL N L' = true) (hn : Nat.ble N h.nxt = true) (hb : getsP h bs 0) (hbl : lowsP N bs)
  (hm : (m.all fun i => Nat.ble (i + 1) N) = true) (hrd : rdLow N rd = true) (hG : lowsB N X.gv = true := by rfl) (hz : X.g = none ∨ Nat.ble 2 N = true := by first | exact .inl rfl | exact .inr rfl) : Ops X sz rd all [] [] L h m (Mid L' (hq N bs) m) := by
 subst hN
 exact Ops.change (Chg.cut bs hg hs hlow hn hb hbl hm hrd hG hz) (Ops.nil (Go.nil fun e he => ⟨rfl, e, rfl, he⟩))
end
end Go.Px
end
section
namespace Go.Px
section
variable {X : Cx} {sz : Nat} {rd : Option Nat} {L : List (Nat × AV)} {h : Heap} {m : List Nat}
theorem row_at_n {t : TypeId} {cs : List AV} {j N : Nat} (hN : cs.length = N) (hj : j < N) : Row.get ⟨t, N, .leaf, cs, none⟩ j = cs.getD j .bad := by
 subst hN; exact row_at_i hj
theorem getD_set {cs : List AV} {i j : Nat} {v : AV} (hj : j < cs.length) : (cs.set i v).getD j .bad = if i = j then v else cs.getD j .bad := by
 rw [List.getD_eq_getElem?_getD, List.getElem?_set]
 by_cases e : i = j
 ·subst e; rw [if_pos rfl, if_pos hj, if_pos rfl]; rfl
 ·rw [if_neg e, if_neg e, List.getD_eq_getElem?_getD]
theorem Chg.tokCellJ (n0 id i : Nat) (ty z N : Nat) {t : TypeId} {cs : List AV} {u : AV} (hN : cs.length = N) (hi : i < N) (hci : cs.getD i .bad = u) (hn0 : h.nxt = n0) (hu : noRoom u = true) (hg : h.get id = .row ⟨t, N, .leaf, cs, none⟩) (hz : X.g = none ∨ Nat.ble 1 n0 = true := by first | exact .inl rfl | exact .inr rfl) : Chg X sz rd L h L ((newAt n0 h (.arr ty z 0 [])).put id (.row ⟨t, N, .leaf, cs.set i (.own n0 0 z), none⟩)) m := fun ro ρ w e a h1 p h3 he h4 => by
 rw [← new_at hn0]
 subst hn0
 have hlt : id < h.nxt := by
  rcases Nat.lt_or_ge id h.nxt with q | q
  ·exact q
  ·rw [p.wf.fresh id q] at hg; cases hg
 have hcell : ∀ B M, ρ id = some (B, M) → ∃ x, w.cell? ⟨B, i, none⟩ = some x ∧ VR ρ u x := fun B M e => by
  have := p.hr.ok id B M e (by unfold Heap.ok; rw [hg]; simp only []; rw [Heap.row_of hg]; rfl)
  rw [hg] at this
  have ro : RowOk ρ ⟨t, N, .leaf, cs, none⟩ B M w := this
  obtain ⟨x, x1, x2⟩ := ro.2.2.2 i hi
  rw [row_at_n hN hi, hci] at x2
  exact ⟨x, x1, x2⟩
 obtain ⟨v0, a0, hv0, hall⟩ : ∃ v0 a0, v0 = Value.slice a0 0 0 ∧ ∀ B M, ρ id = some (B, M) → w.cell? ⟨B, i, none⟩ = some v0 := by
  cases hid : ρ id with
  | none => exact ⟨_, none, rfl, fun B M e => by cases e⟩
  | some y =>
   obtain ⟨B, M⟩ := y
   obtain ⟨x, x1, x2⟩ := hcell B M hid
   obtain ⟨a, ha⟩ := noRoom_at hu x2
   exact ⟨x, a, ha, fun B' M' e => by cases e; exact x1⟩
 obtain ⟨ρ', p', hs, v1, hm, _⟩ := p.tokV ty z hv0 hz
 have hne : id ≠ h.nxt := by omega
 have hg' : (h.new (.arr ty z 0 [])).get id = .row ⟨t, N, .leaf, cs, none⟩ := by rw [Heap.get_new, if_neg hne]; exact hg
 refine ⟨ρ', e, h1.mono hs, p'.cellV hg' rfl rfl rfl rfl (fun B M e1 j v hj hc q => ?_), h3.mono hs, he, h4.mono hs⟩
 have hj : j < N := hj
 rw [row_at_n hN hj] at q
 rw [row_at_n (by rw [List.length_set]; exact hN) hj, getD_set (by omega)]
 by_cases eij : i = j
 ·subst eij
  rw [if_pos rfl]
  have e2 : ρ id = some (B, M) := by
   have : ρ'.m id = some (B, M) := e1
   rw [hm] at this; exact this
  rw [hall B M e2] at hc
  cases hc
  simp only [VR]
  exact ⟨v1, .inl ⟨trivial, _, hv0⟩⟩
 ·rw [if_neg eij]; exact q
theorem Chg.cellFrzJ (id k i N : Nat) {t ty : TypeId} {z n : Nat} {cs l : List AV} (hN : cs.length = N) (hij : i < N) (hci : cs.getD i .bad = .own k n z) (hg : h.get id = .row ⟨t, N, .leaf, cs, none⟩) (hk : h.get k = .arr ty z n l) (hi : HInd k h) (hL : indL k L = true) (hm : (m.all fun i => !Nat.beq i k) = true) (hrd : rdNot k rd = true) (hG : indsB k X.gv = true := by rfl) :
  Chg X sz rd L h L ((h.put k .none).put id (.row ⟨t, N, .leaf, cs.set i (.rsl n z l), none⟩)) m := fun ro ρ w e a h1 p h3 he h4 => by
 obtain ⟨ρ', p', sx, m2, f4, fV⟩ := p.frzArr hk hi hG
 have hne : id ≠ k := fun q => by subst q; rw [hg] at hk; cases hk
 have hg' : (h.put k .none).get id = .row ⟨t, N, .leaf, cs, none⟩ := by rw [Heap.get_put, if_neg hne]; exact hg
 have p2 := p'.cell (r' := ⟨t, N, .leaf, cs.set i (.rsl n z l), none⟩) hg' rfl rfl rfl rfl (fun j v hj q => by
  have hj : j < N := hj
  rw [row_at_n hN hj] at q
  rw [row_at_n (by rw [List.length_set]; exact hN) hj, getD_set (by omega)]
  by_cases eij : i = j
  ·subst eij
   rw [if_pos rfl]
   rw [hci] at q
   refine f4 v ?_
   simp only [VR] at q ⊢
   rw [fV] at q; exact q
  ·rw [if_neg eij]; exact q)
 obtain ⟨e', he', er'⟩ := known_env (σ := ρ') (L := L) (tm := a.tmps) (sz := sz) h3.1 (fun s v q => by
  have := h3.2 s
  rw [he s v q] at this
  exact ind_ok sx v (indL_at hL s v q) this)
 obtain ⟨D1, h5, h6⟩ := h4
 exact ⟨ρ', e', rox_out m2 hrd h1, p2, er', he', ⟨D1, mrx_out (X := X) m2 hm h5, h6⟩⟩
end
end Go.Px
end
section
namespace Go.Px
open Go.Deep Go.ChangeShapes Go.WideShapes
theorem read_sliceB {H : Type} {enc : TypeId × Value → H} {P : Program} {W : World} {α : Type} [Inhabited α] {en : α → List AV} {z : Nat} (hz : 0 < z) (hen : ∀ a, (en a).length = z) {t e : TypeId} (ht : P.underlying t = some (.slice e)) (hc : P.cellsOf e = z) {Q : α → DataW H → Prop} {B : DataW H → Prop}
  (hel : ∀ n cs y, B y.1 → DataW.trod enc P W 0 (fun _ => true) true n e cs = some y → ∃ x, VRs (fzm (held0 W)) (en x) cs ∧ Q x y.1)
  {n : Nat} {v : Value} {y : DataW H × List MemPlace} (hB : ∀ els sp, y.1 = .slice els sp → ∀ d ∈ els, B d) (h : DataW.trod enc P W 0 (fun _ => true) true n t [v] = some y) :
  ∃ l : List α, VR (fzm (held0 W)) (dsl z en l) v ∧ ((l = [] ∧ y.1 = .nil) ∨ ∃ els sp, y.1 = .slice els sp ∧ els.length = l.length ∧ ∀ i, i < l.length → ∃ d, els[i]? = some d ∧ Q (l.getD i default) d) := by
 rcases open_slice ht h with ⟨hv, rfl⟩ | ⟨a, len, cap, m, k, D, Pl, hv, hb, hl, hm, hmm, rfl, hx⟩
 ·have hv : v = .slice none 0 0 := by simpa using hv
  subst hv
  exact ⟨[], by simp [dsl, VR], .inl ⟨rfl, rfl⟩⟩
 ·have hv : v = .slice (some a) len cap := by simpa using hv
  subst hv
  rw [hc] at hx
  have hlm : len ≤ m := by rw [hmm]; split <;> omega
  obtain ⟨f, hf⟩ := choose_lt (α := α) (n := len) (p := fun i x => ∃ cs, W.cells? 0 (a.add (i * z)) z = some cs ∧ VRs (fzm (held0 W)) (en x) cs ∧ Q x (D i)) (fun i hi => by
   obtain ⟨cs', h1, h2⟩ := hx i (by omega)
   obtain ⟨x, x1, x2⟩ := hel _ _ _ (hB _ _ rfl _ (List.mem_map.2 ⟨i, List.mem_range.2 hi, rfl⟩)) h2
   exact ⟨x, cs', h1, x1, x2⟩)
  have hlen : ((List.range len).map f).length = len := by simp
  refine ⟨(List.range len).map f, ?_, .inr ⟨_, _, rfl, by simp, fun i hi => ?_⟩⟩
  ·unfold dsl
   rw [hlen]
   simp only [VR]
   refine ⟨by rw [flat_len hen, hlen], ?_⟩
   by_cases h0 : len = 0
   ·exact .inl ⟨h0, .inr ⟨a, cap, by rw [h0]⟩⟩
   ·right
    obtain ⟨B, o, spot⟩ := a
    have hspot : spot = none := by
     obtain ⟨cs, c1, c2, _⟩ := hf 0 (by omega)
     obtain ⟨_, q2, q3⟩ := World.cells?_some c1
     have q4 := q3 0 hz
     rw [List.getElem?_eq_getElem (by omega)] at q4
     simpa [Addr.add] using World.cell?_spot q4
    subst hspot
    refine ⟨B, o, cap, ((held0 W B).drop o).take (len * z), rfl, hl, ?_, fun j x hj => ?_⟩
    ·have key : ∀ k, k ≤ len → VRs (fzm (held0 W)) (((List.range k).map f).flatMap en) (((held0 W B).drop o).take (k * z)) := by
      intro k
      induction k with
      | zero => intro _; simp [VRs]
      | succ k ih =>
       intro hk
       have h1 := ih (by omega)
       obtain ⟨cs, c1, c2, _⟩ := hf k (by omega)
       obtain ⟨_, q2, q3⟩ := World.cells?_some c1
       have e : ((held0 W B).drop o).take ((k + 1) * z) = ((held0 W B).drop o).take (k * z) ++ cs := by
        rw [Nat.succ_mul, List.take_add]
        congr 1
        apply List.ext_getElem?
        intro r
        rw [List.drop_drop, List.getElem?_take]
        by_cases hr : r < z
        ·rw [if_pos hr, List.getElem?_drop]
         have q4 := q3 r hr
         rw [List.getElem?_eq_getElem (show r < cs.length by omega)] at q4 ⊢
         rw [add_plain, add_plain] at q4
         have := held0_at.2 q4
         rw [← this]
        ·rw [if_neg hr, List.getElem?_eq_none (by omega)]
       rw [List.range_succ, List.map_append, List.flatMap_append, e]
       refine h1.append ?_
       simpa using c2
     exact key len (Nat.le_refl _)
    ·rw [List.getElem?_take] at hj
     split at hj
     ·rw [List.getElem?_drop] at hj
      exact hj
     ·cases hj
  ·have hi' : i < len := by omega
   obtain ⟨cs, _, _, q⟩ := hf i hi'
   refine ⟨D i, by simp [hi'], ?_⟩
   rw [List.getD_eq_getElem?_getD]
   simpa [hi'] using q
end Go.Px
end
section
namespace Go.Proofs.Ythlbnmohaeeccaa.bulks
theorem one_le {H : Type} (d : DataW H) : 1 ≤ Rows.uptoBulk d := by
 cases d with
 | lit l => cases l <;> simp [Rows.uptoBulk]
 | nil => simp [Rows.uptoBulk]
 | ptr d => simp [Rows.uptoBulk]
 | slice elems spare => simp [Rows.uptoBulk]
 | agg parts => simp [Rows.uptoBulk]
 | iface t d => simp [Rows.uptoBulk]
 | map entries => simp [Rows.uptoBulk]
 | held h => simp [Rows.uptoBulk]
theorem part_le {H : Type} {d : DataW H} {l : List (DataW H)} (h : d ∈ l) : Rows.uptoBulk d ≤ Rows.uptoBulkAll l := by
 induction l with
 | nil => cases h
 | cons x r ih =>
  simp only [Rows.uptoBulkAll]
  cases List.mem_cons.1 h with
  | inl e => subst e; omega
  | inr e => have := ih e; omega
theorem append {H : Type} (l r : List (DataW H)) : Rows.uptoBulkAll (l ++ r) = Rows.uptoBulkAll l + Rows.uptoBulkAll r := by
 induction l with
 | nil => simp [Rows.uptoBulkAll]
 | cons x l ih => simp only [List.cons_append, Rows.uptoBulkAll, ih]; omega
theorem length_le {H : Type} (l : List (DataW H)) : l.length ≤ Rows.uptoBulkAll l := by
 induction l with
 | nil => simp [Rows.uptoBulkAll]
 | cons x r ih => have := one_le x; simp only [Rows.uptoBulkAll, List.length_cons]; omega
theorem slice_le {H : Type} (elems spare : List (DataW H)) : elems.length + spare.length + 1 ≤ Rows.uptoBulk (.slice elems spare) := by
 have h1 := length_le elems
 have h2 := length_le spare
 simp only [Rows.uptoBulk]
 omega
theorem slice_elems {H : Type} (elems spare : List (DataW H)) : Rows.uptoBulkAll elems + 1 ≤ Rows.uptoBulk (.slice elems spare) := by
 simp only [Rows.uptoBulk]
 omega
theorem string_eq {H : Type} (bytes : List UInt8) : Rows.uptoBulk (DataW.lit (H := H) (.string bytes)) = bytes.length + 1 := by
 simp [Rows.uptoBulk]
theorem bound {H : Type} {l : List (DataW H)} (hk : Rows.uptoSmall H l = true) : Rows.uptoBulkAll l ≤ 1048576 := by
 simpa [Rows.uptoSmall] using hk
theorem room {n b : Nat} (hn : n ≤ 2097152) (hb : b ≤ 4096) : (n + n / 4 + 192) * b ≤ 281474976710656 := by
 have h : (n + n / 4 + 192) * b ≤ 2621632 * 4096 := Nat.mul_le_mul (by omega) hb
 omega
end Go.Proofs.Ythlbnmohaeeccaa.bulks
end
