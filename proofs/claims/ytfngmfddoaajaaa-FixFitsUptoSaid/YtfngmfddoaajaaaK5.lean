/- Parts of the proof in YtfngmfddoaajaaaFin: PxVc, PxVd, FxP, PxVe, FxQ, FxS, FxL, PxVf, FxR, FxO, FxT, PxVg, FxU, FxUa, FxUb, FxV, FxW. -/
import Derived.Test.YtfngmfddoaajaaaK4
import Derived.Shelf.Small.Bits
import Derived.Shelf.Small.Strs
import Derived.Shelf.Small.Wraps
import Derived.Shelf.Strconv.Itoa0
import Derived.Shelf.Strings.Search1
import Derived.Shelf.Sort.Plain
import Derived.Shelf.Slices.Turned
import Derived.Ground.Names2Prog
import Derived.Shelf.Slices.Clone
import Derived.Shelf.Slices.CompactS
import Derived.Shelf.Slices.SearchI
import Derived.Shelf.Slices.Cells
import Derived.Shelf.Slices.In.SortNone
import Derived.Ground.SlgnProg
import Derived.Shelf.SlicesG.SearchI
import Derived.Shelf.SlicesE.Clone
import Derived.Test.YtfngmfddoaajaaaProg
/- PxVc -/
section
set_option linter.unusedVariables false
set_option linter.unusedSimpArgs false
namespace Go.Px

/-- how it stands with those for whom one iterates, in these blocks -/
def GhW (X : Cx) (ρ : Map) (h : Heap) (w : World) (S : Nat → Prop) (Fo : Nat → List Value) : Prop := ∀ G, X.g = some G → ∀ t z n l, h.get 0 = .arr t z n l → G.J z S Fo w ∧ (∀ b, S b → b < w.heap.size) ∧ (∀ i B N, ρ i = some (B, N) → h.ok i → ¬ S B ∧ G.n0 ≤ B) ∧ ((∀ b, S b ∨ b < G.n0 → ρ.F b = Fo b) ∧ ∀ (b i : Nat) (x : Value), (Fo b)[i]? = some x → (ρ.F b)[i]? = some x) ∧ G.n0 ≤ w.heap.size ∧ S G.blk ∧ (∃ N, ρ 1 = some (G.blk, N)) ∧ ∀ b, S b → ¬ X.shut b
theorem GhP.wit {X : Cx} {ρ : Map} {h : Heap} {w : World} (p : GhP X ρ h w) : ∃ S Fo, GhW X ρ h w S Fo ∧ (∀ b, S b → b < w.heap.size) ∧ ∀ b, S b → ¬ X.shut b := by
  cases hG : X.g with
  | none => exact ⟨fun _ => False, fun _ => [], (fun G e => by rw [hG] at e; cases e), fun _ q => q.elim, fun _ q => q.elim⟩
  | some G =>
    by_cases ha : ∃ t z n l, h.get 0 = .arr t z n l
    · obtain ⟨t, z, n, l, e⟩ := ha
      obtain ⟨S, Fo, s⟩ := p G hG t z n l e
      refine ⟨S, Fo, fun G' e1 t' z' n' l' e2 => ?_, s.2.1, s.2.2.2.2.2.2.2⟩
      rw [hG] at e1; cases e1
      rw [e] at e2; cases e2
      exact s
    · exact ⟨fun _ => False, fun _ => [], (fun G' e1 t z n l e2 => absurd ⟨t, z, n, l, e2⟩ ha), fun _ q => q.elim, fun _ q => q.elim⟩
theorem GhW.gh {X : Cx} {ρ : Map} {h : Heap} {w : World} {S : Nat → Prop} {Fo : Nat → List Value} (p : GhW X ρ h w S Fo) : GhP X ρ h w := fun G hG t z n l e => ⟨S, Fo, p G hG t z n l e⟩

theorem fo_nil {F F' : Nat → List Value} (h : ∀ (b i : Nat) (x : Value), (F b)[i]? = some x → (F' b)[i]? = some x) {b : Nat} (e : F' b = []) : F b = [] := by
  cases hl : F b with
  | nil => rfl
  | cons x r =>
    have := h b 0 x (by rw [hl]; rfl)
    rw [e] at this; simp at this
/-- the world goes on elsewhere -/
theorem PI.world {X : Cx} {ρ : Map} {h : Heap} {w w' : World} (p : PI X ρ h w) (hs : Same w w') {U : Nat → Prop} (hu : ∀ b, b < w.heap.size → U b → w'.heap[b]? = w.heap[b]?) (u1 : ∀ i B N, ρ i = some (B, N) → U B) (u2 : ∀ b, ρ.F b ≠ [] → U b) (u3 : ∀ b, b < X.w0.heap.size → U b) {S : Nat → Prop} {Fo : Nat → List Value} (g : GhW X ρ h w S Fo) (u4 : ∀ b, S b → U b) (u5 : ∀ G, X.g = some G → ∀ b, b < G.n0 → U b) : PI X ρ h w' ∧ GhW X ρ h w' S Fo := by
  have hgw : GhW X ρ h w' S Fo := fun G hG t z n l e => by
    obtain ⟨s1, s2, s3, s4, s5, s6, s7, s8⟩ := g G hG t z n l e
    refine ⟨G.stab z S Fo w w' s1 hs (fun b hb q => hu b hb (q.elim (u4 b) fun q => q.elim (u5 G hG b) fun q => u2 b fun e => q (fo_nil s4.2 e))), fun b q => Nat.lt_of_lt_of_le (s2 b q) hs.size, s3, s4, Nat.le_trans s5 hs.size, s6, s7, s8⟩
  refine ⟨⟨⟨fun i B N e => Nat.lt_of_lt_of_le (p.hr.lt i B N e) hs.size, fun i B N e q => ?_, p.hr.inj, p.hr.gl, fun B j x e => ?_, p.hr.sep, p.hr.av⟩, p.wf, p.fr, p.vf, p.vu, ⟨p.ext.1.trans hs, fun b hb => ?_⟩, p.mine, p.sub, p.old, p.keep, hgw.gh⟩, hgw⟩
  · exact (p.hr.ok i B N e q).block (hu B (p.hr.lt i B N e) (u1 i B N e))
  · have hne : ρ.F B ≠ [] := fun q => by rw [q] at e; simp at e
    have := p.hr.fz B j x e
    unfold World.cell? at this ⊢
    have hlt := p.hr.F_lt hne
    simp only [hu B hlt (u2 B hne)]
    exact this
  · rw [hu b (Nat.lt_of_lt_of_le hb.1 p.ext.1.size) (u3 b hb.1)]; exact p.ext.2 b hb
/-- another base -/
theorem PI.base {X : Cx} {ρ : Map} {h : Heap} {w : World} (p : PI X ρ h w) {S : Nat → Prop} {Fo : Nat → List Value} (g : GhW X ρ h w S Fo) (ro : Option Nat) (hid : List Nat) (gx : List Value) (gv : List AV) (hk : VRs ρ gv gx) {F : Nat → List Value} (hF : ∀ (b j : Nat) (x : Value), (ρ.F b)[j]? = some x → (F b)[j]? = some x) (hz : FzW F w) (hsep : ∀ i B N, ρ i = some (B, N) → F B = ρ.F B) (hS : ∀ b, S b → F b = ρ.F b) (hn : ∀ G, X.g = some G → ∀ b, b < G.n0 → F b = ρ.F b) :
    PI ⟨X.c, w, F, fun b => (∃ i N, ρ i = some (b, N)) ∨ S b, X.g, ro, hid, gv, gx⟩ ⟨ρ.m, F, ρ.V⟩ h w := by
  have hs : Sub ρ ⟨ρ.m, F, ρ.V⟩ := ⟨fun _ _ e => e, hF, fun _ _ _ e => e⟩
  refine ⟨⟨p.hr.lt, fun i B N e q => (p.hr.ok i B N e q).mono hs, p.hr.inj, p.hr.gl, hz, fun i B N e q => ?_, fun i t z n l q => (p.hr.av i t z n l q).mono hs⟩, p.wf, p.fr, p.vf, p.vu, ⟨Same.refl w, fun _ _ => rfl⟩, fun i B N e hsh => hsh.2 (.inl ⟨i, N, e⟩), fun _ _ _ e => e, fun _ _ => rfl, hk.mono hs, fun G hG t z n l e => ?_⟩
  · rcases p.hr.sep i B N e q with a | ⟨r, a⟩
    · exact .inl ((hsep i B N e).trans a)
    · exact .inr ⟨r, a⟩
  · obtain ⟨s1, s2, s3, s4, s5, s6, s7, s8⟩ := g G hG t z n l e
    exact ⟨S, Fo, s1, s2, s3, ⟨fun b q => (q.elim (hS b) (hn G hG b)).trans (s4.1 b q), fun b i x e => hF b i x (s4.2 b i x e)⟩, s5, s6, s7, fun b q hsh => hsh.2 (.inr q)⟩
/-- back from another base -/
theorem PI.rebase {X : Cx} {ρ : Map} {h : Heap} {w : World} (p : PI X ρ h w) {S : Nat → Prop} (hS : ∀ b, S b → ¬ X.shut b) {ro : Option Nat} {hid : List Nat} {gx : List Value} {gv : List AV} {F : Nat → List Value} (hF : ∀ (b j : Nat) (x : Value), (ρ.F b)[j]? = some x → (F b)[j]? = some x) (hold : ∀ b, X.shut b → F b = ρ.F b) {ρ' : Map} {h' : Heap} {w' : World}
    (q : PI ⟨X.c, w, F, fun b => (∃ i N, ρ i = some (b, N)) ∨ S b, X.g, ro, hid, gv, gx⟩ ρ' h' w') (hk : VRs ρ' X.gv X.gx) : PI X ρ' h' w' := by
  have key : ∀ b, X.shut b → Cx.shut ⟨X.c, w, F, fun b => (∃ i N, ρ i = some (b, N)) ∨ S b, X.g, ro, hid, gv, gx⟩ b := fun b hb =>
    ⟨Nat.lt_of_lt_of_le hb.1 p.ext.1.size, fun a => a.elim (fun ⟨i, N, e⟩ => p.mine i b N e hb) (fun a => hS b a hb)⟩
  refine ⟨q.hr, q.wf, q.fr, q.vf, q.vu, ⟨p.ext.1.trans q.ext.1, fun b hb => (q.ext.2 b (key b hb)).trans (p.ext.2 b hb)⟩, fun i B N e hb => q.mine i B N e (key B hb), fun b j x e => q.sub b j x (hF b j x (p.sub b j x e)), fun b hb => ((q.old b (key b hb)).trans (hold b hb)).trans (p.old b hb), hk, fun G hG t z n l e => ?_⟩
  obtain ⟨S', Fo, s1, s2, s3, s4, s5, s6, s7, s8⟩ := q.gh G hG t z n l e
  exact ⟨S', Fo, s1, s2, s3, s4, s5, s6, s7, fun b a hb => s8 b a (key b hb)⟩

/-- the same memory, said otherwise -/
def ChgE (X : Cx) (h h' : Heap) : Prop := ∀ ρ w, PI X ρ h w → ∃ ρ', PI X ρ' h' w
theorem ChgE.refl {X : Cx} {h : Heap} : ChgE X h h := fun ρ w p => ⟨ρ, p⟩
theorem ChgE.trans {X : Cx} {a b d : Heap} (x : ChgE X a b) (y : ChgE X b d) : ChgE X a d := fun ρ w p => by
  obtain ⟨ρ', p'⟩ := x ρ w p
  exact y ρ' w p'
theorem ChgE.of {X : Cx} {h h' : Heap} (H : Chg X 0 none [] h [] h' []) : ChgE X h h' := fun ρ w p => by
  obtain ⟨ρ', e', _, p', _⟩ := H X.ro ρ w .leaf ⟨#[], X.hid.map colD⟩ rfl p ⟨rfl, fun t => by
    rw [get_leaf]
    have : (#[] : Array Value).getD t undef = undef := by simp
    rw [this]; exact und_ok ρ⟩ (fun t v e => by cases e) ⟨[], rfl, rfl⟩
  exact ⟨ρ', p'⟩
theorem ChgE.cut {X : Cx} {h : Heap} {N : Nat} (bs : List AB) (hN : bs.length = N) (hg : ∀ i r, X.c.g0.get i ≠ .gl r) (hn : Nat.ble N h.nxt = true) (hb : getsP h bs 0) (hbl : lowsP N bs) (hG : lowsB N X.gv = true := by rfl) (hz : X.g = none ∨ Nat.ble 2 N = true := by first | exact .inl rfl | exact .inr rfl) : ChgE X h (hq N bs) := by
  subst hN
  exact ChgE.of (Chg.cut bs hg trivial rfl hn hb hbl rfl rfl hG hz)

/-- A FUNCTION THAT ITERATES: whoever ranges over it goes round with these, unless they leave ahead of the end. -/
structure KIt (c : Ctx) (g : FuncId) (cap : List AV) (items : List (List AV)) : Prop where
  fn : ∃ fn, c.P.funcs[g]? = some fn ∧ fn.body.isSome = true
  run : ∀ (G : Gho c.P) (w : World) (C : List Value) (S : Nat → Prop) (F : Nat → List Value), G.items = items → G.n0 = w.heap.size → FzW F w → VRs (fzm F) cap C → S G.blk → G.J 0 S F w → (∀ b, S b → b < w.heap.size) →
    ∃ nx w1, (callFunc g (Value.func (.yield G.blk) #[] #[] :: C).toArray).run c.P w = .ok nx w1 ∧ NextOk c.P (fun z w' => Same w w' ∧ (∀ b, b < w.heap.size → ¬ S b → w'.heap[b]? = w.heap[b]?) ∧
      ∃ k S' F', (k = items.length ∨ k = items.length + 1) ∧ G.J k S' F' w') nx w1
/-- it has come to its end -/
def FinY (c : Ctx) (res : List ResultVar) (N : Nat) : Post := fun x s => (x = .normal ∨ x = .ret) ∧ ∃ h' vs, leave s.h s.m = some h' ∧ resA c h' s.e res = some vs ∧ ∃ t z n l, h'.get 0 = .arr t z n l ∧ (z = N ∨ z = N + 1)
theorem Go.retY {X : Cx} {sz : Nat} {rd : Option Nat} {k : List It} {L : List (Nat × AV)} {h : Heap} {m : List Nat} {c : Ctx} {res : List ResultVar} {vs : List AV} {N t z n : Nat} {l : List AV} {h' : Heap} (hl : leave h m = some h') (hr : resL L res = some vs) (h0 : h'.get 0 = .arr t z n l) (ht : z = N ∨ z = N + 1) : Go X sz rd (.code .ret :: k) L h m (FinY c res N) :=
  Go.ret fun e he => ⟨.inr rfl, h', vs, hl, resL_ok he hr, t, z, n, l, h0, ht⟩
theorem Go.endY {X : Cx} {sz : Nat} {rd : Option Nat} {L : List (Nat × AV)} {h : Heap} {m : List Nat} {c : Ctx} {res : List ResultVar} {vs : List AV} {N t z n : Nat} {l : List AV} {h' : Heap} (hl : leave h m = some h') (hr : resL L res = some vs) (h0 : h'.get 0 = .arr t z n l) (ht : z = N ∨ z = N + 1) : Go X sz rd [] L h m (FinY c res N) :=
  Go.nil fun e he => ⟨.inl rfl, h', vs, hl, resL_ok he hr, t, z, n, l, h0, ht⟩
theorem KIt.of {c : Ctx} (k : CtxOk c) (hg0 : ∀ i r, c.g0.get i ≠ .gl r) {f : FuncId} {fn : Func} {body : Code} (hf : c.P.funcs[f]? = some fn) (hb : fn.body = some body) {cap : List AV} {items : List (List AV)} (hlen : Nat.ble (cap.length + 1) fn.ntmps = true) 
    (H : ∀ w F opn (G : Gho c.P) gx, G.items = items → Go ⟨c, w, F, opn, some G, none, [], [], gx⟩ fn.ntmps none [.code body] (argsL (.fn (.yield 1) [] [] :: cap) 0) (hq 2 [.arr 0 0 0 [], .none]) [] (FinY c fn.results.toList items.length)) : KIt c f cap items := by
  refine ⟨⟨fn, hf, by rw [hb]; rfl⟩, fun G w C S F hit hn0 hfz hC hblk hJ hS => ?_⟩
  have hnm : fn.name ≠ "runtime.NumGoroutine" := by simpa using k.names f fn hf
  refine ⟨.enter f (Value.func (.yield G.blk) #[] #[] :: C).toArray, w, by simp [callFunc, hf, hnm, hb, Sem.run], ?_⟩
  refine callsIn_of_wp_marks hf hb trivial ?_
  let ρ : Map := ⟨fun i => if i = 1 then some (G.blk, 0) else none, F, fun i n => if i = 0 ∧ n = 0 then some (.slice none 0 0) else none⟩
  have r1 : ρ 1 = some (G.blk, 0) := rfl
  have r2 : ∀ {i B N}, ρ i = some (B, N) → i = 1 ∧ B = G.blk := fun {i B N} e => by
    by_cases hi : i = 1
    · subst hi; rw [r1] at e; cases e; exact ⟨rfl, rfl⟩
    · have : ρ i = none := if_neg hi
      rw [this] at e; cases e
  have g0 : (hq 2 [.arr 0 0 0 [], .none]).get 0 = .arr 0 0 0 [] := rfl
  have gN : ∀ i, i ≠ 0 → (hq 2 [.arr 0 0 0 [], .none]).get i = .none := fun i hi => by
    rw [hq_get]
    match i, hi with
    | 1, _ => rfl
    | i + 2, _ => simp
  have nok : ∀ {i B N}, ρ i = some (B, N) → ¬ (hq 2 [.arr 0 0 0 [], .none]).ok i := fun {i B N} e o => by
    obtain ⟨rfl, _⟩ := r2 e
    unfold Heap.ok at o; rw [gN 1 (by decide)] at o; exact o
  have hA : VRs ρ (.fn (.yield 1) [] [] :: cap) (Value.func (.yield G.blk) #[] #[] :: C) := by
    simp only [VRs]
    refine ⟨_, _, ?_, VRs.mono (ρ := fzm F) (σ := ρ) ⟨fun _ _ e => (by cases e), fun _ _ _ e => e, fun _ _ _ e => (by cases e)⟩ cap hC, rfl⟩
    simp only [VR, FR, VRs]
    exact ⟨_, [], [], ⟨_, _, r1, rfl⟩, rfl, rfl, rfl⟩
  have hpi : PI ⟨c, w, F, S, some G, none, [], [], []⟩ ρ (hq 2 [.arr 0 0 0 [], .none]) w := by
    refine ⟨⟨fun i B N e => ?_, fun i B N e q => absurd q (nok e), fun i j B N M hij e1 e2 k1 k2 => absurd k1 (nok e1), fun i r e => ?_, hfz, fun i B N e q => absurd q (nok e), fun i t z n l e => ?_⟩, ⟨fun i hi => gN i (by have hi : 2 ≤ i := hi; omega), fun i r q e => ?_, fun i r q t e => ?_, fun q _ => get_leaf none q⟩, ⟨fun i hi => if_neg (by have hi : 2 ≤ i := hi; omega), fun i r e => absurd e (hg0 i r)⟩, fun i hi n => if_neg (by have hi : 2 ≤ i := hi; omega), fun i t z n l e m hm => ?_, ⟨Same.refl w, fun _ _ => rfl⟩, fun i B N e hs => ?_, fun _ _ _ e => e, fun _ _ => rfl, (by simp only [VRs]), fun G' hG t z n l e => ?_⟩
    · obtain ⟨_, rfl⟩ := r2 e; exact hS _ hblk
    · by_cases hi : i = 0
      · subst hi; rw [g0] at e; cases e
      · rw [gN i hi] at e; cases e
    · by_cases hi : i = 0
      · subst hi; rw [g0] at e; cases e
        exact ⟨rfl, .inl ⟨rfl, rfl⟩⟩
      · rw [gN i hi] at e; cases e
    · by_cases hi : i = 0
      · subst hi; rw [g0] at e; cases e
      · rw [gN i hi] at e; cases e
    · by_cases hi : i = 0
      · subst hi; rw [g0] at e; cases e
      · rw [gN i hi] at e; cases e
    · by_cases hi : i = 0
      · subst hi; rw [g0] at e; cases e
        exact if_neg (fun a => by omega)
      · rw [gN i hi] at e; cases e
    · obtain ⟨_, rfl⟩ := r2 e; exact hs.2 hblk
    · cases hG
      rw [g0] at e; cases e
      exact ⟨S, F, hJ, hS, fun i B N e q => absurd q (nok e), ⟨fun _ _ => rfl, fun _ _ _ e => e⟩, by omega, hblk, ⟨0, r1⟩, fun b q hs => hs.2 q⟩
  have h := (H w F S G [] hit).run (T.put und (.fn (.yield 1) [] [] :: cap) (env0 und fn.ntmps) 0) (argsL_has _ _ 0)
  have ht : Tri ⟨c, w, F, S, some G, none, [], [], []⟩ fn.ntmps none body ⟨T.put und (.fn (.yield 1) [] [] :: cap) (env0 und fn.ntmps) 0, hq 2 [.arr 0 0 0 [], .none], []⟩ (FinY c fn.results.toList items.length) := h
  refine ht none ρ w _ _ rfl hpi (args_er hA (bleT hlen)) ⟨[], rfl, rfl⟩ fun x s' a' w' ρ' ⟨hx, h', vs, q1, q2, t, z, n, l, q3, q4⟩ g1 g2 g3 g4 => ?_
  have hfin : LeavesInM Fence.wide 0 c.P fn a'.tmps (EndR fun z w' => Same w w' ∧ (∀ b, b < w.heap.size → ¬ S b → w'.heap[b]? = w.heap[b]?) ∧ ∃ k S' F', (k = items.length ∨ k = items.length + 1) ∧ G.J k S' F' w') a'.defers .returning w' := by
    refine leave_ok g2.hr g2.wf (g4.nil rfl) q1 fun w2 gg => ?_
    have g5 := g2.good gg (ArrKeep.leave q1)
    obtain ⟨z', z1, z2⟩ := results_ok k g5.hr g3 q2
    obtain ⟨S', F', s1, _⟩ := g5.gh G rfl t z n l q3
    exact ⟨z', z1, g5.ext.1, fun b hb hs => g5.ext.2 b ⟨hb, hs⟩, z, S', F', q4, s1⟩
  rcases hx with rfl | rfl
  · exact hfin
  · exact hfin
section
variable {X : Cx} {tb : List (Nat × TE)} (E : Env X.c tb) {sz : Nat} {rd : Option Nat} {all : Array Oper} {o : Oper} {rest : List Oper} {k : List It} {L : List (Nat × AV)} {h : Heap} {m : List Nat} {Q : Post}
include E
/-- ONE ITERATES: the next one is handed on. -/
theorem Ops.yieldJ {G : Gho X.c.P} {d t z : Nat} {cl : Call} {f : Operand} {vs : List AV} (hw : Want all L o true) (ho : o.op = .call cl) (hc : cl.callee = .value f) (hfv : evL L f = some (.fn (.yield 1) [] [])) (hv : evsL L cl.args.toList = some vs) (hdt : datsB vs = true) (hX : X.g = some G) (h0 : h.get 0 = .arr t z 0 []) (hit : G.items[z]? = some vs) (hd : o.dst = some d) (hs : Nat.ble (d + 1) sz = true)
    (n1 : Ops X sz rd all rest k ((d, .bool true) :: L) (h.put 0 (.arr t (z + 1) 0 [])) m Q) (n2 : Ops X sz rd all rest k ((d, .bool false) :: L) (h.put 0 (.arr t (G.items.length + 1) 0 [])) m Q) : Ops X sz rd all (o :: rest) k L h m Q := ⟨fun e0 he => by
  have _ := E
  refine TriOps.cons (hw e0 he) (K := fun s' => RunK X sz rd k Q .normal s') ?_
  intro ro ρ w a next Q' h1 p h3 h4 h5
  refine ⟨fun _ _ => trivial, ?_⟩
  rw [show (wideR ro).round = ro from rfl, Oper.semAt_eq ro a.eval o (by rw [ho]; intro d q; cases q)]
  obtain ⟨S, Fo, s1, s2, s3, s4, s5, s6, ⟨N1, s7⟩, s8⟩ := p.gh G hX t z 0 [] h0
  have hfv' := ev_ok h3 f
  rw [he.ev hfv] at hfv'
  simp only [VR, VRs, FR] at hfv'
  obtain ⟨f', F, C, ⟨B, N, hB, rfl⟩, rfl, rfl, e4⟩ := hfv'
  rw [s7] at hB; cases hB
  have hargs := evs_ok h3 cl.args.toList
  rw [he.evs hv] at hargs
  obtain ⟨nx, w1, q1, q2⟩ := G.step z S w vs _ Fo ρ.F hit s1 s5 s2 s4.1 s4.2 p.hr.fz (dats_ok vs hdt hargs)
  have hrun : (execOp a.eval o).run X.c.P w = .ok nx w1 := by
    rw [← q1]
    simp only [execOp, ho, resolve, hc, e4, Deferred.ofValue, Sem.run_bind, Sem.run_pure, Result.andThen_ok, invoke]
    congr 2
    apply Array.ext'; simp
  rw [hrun]
  refine uponIn_of_next q2 fun zz w' ⟨r1, r2, r3, S', r4, r5, r6⟩ => ?_
  have hok0 : ∀ {b : AB}, h.get 0 = b → b.isArr = true → h.ok 0 := fun {b} e hb => by unfold Heap.ok; rw [e]; cases b <;> first | trivial | cases hb
  have ok0 := hok0 h0 rfl
  -- the marker is no block of the world
  have fin : ∀ (T : Nat) (bb : Bool), zz = .bool bb → G.J T S' ρ.F w' → Ops X sz rd all rest k ((d, .bool bb) :: L) (h.put 0 (.arr t T 0 [])) m Q → next (a.put o.dst zz) w' := fun T bb hzz hJ hops => by
    have hg : ∀ j, j ≠ 0 → (h.put 0 (.arr t T 0 [])).get j = h.get j := fun j q => by rw [Heap.get_put, if_neg q]
    have hn : (h.put 0 (.arr t T 0 [])).get 0 = .arr t T 0 [] := by rw [Heap.get_put, if_pos rfl]
    have hoo : ∀ j, j ≠ 0 → ((h.put 0 (.arr t T 0 [])).ok j ↔ h.ok j) := fun j q => Heap.ok_same (hg j q) (fun _ _ _ _ => rfl)
    have hokall : ∀ j, (h.put 0 (.arr t T 0 [])).ok j → h.ok j := fun j q => by
      by_cases hj : j = 0
      · subst hj; exact ok0
      · exact (hoo j hj).1 q
    have stay : ∀ {i B N}, ρ i = some (B, N) → h.ok i → w'.heap[B]? = w.heap[B]? := fun {i B N} e o => r2 B (p.hr.lt i B N e) (s3 i B N e o).1
    have hpi : PI X ρ (h.put 0 (.arr t T 0 [])) w' := by
      refine ⟨⟨fun i B N e => Nat.lt_of_lt_of_le (p.hr.lt i B N e) r1.size, fun i B N e q => ?_, fun i j B N M hij e1 e2 k1 k2 => ?_, fun i r e => ?_, r3, fun i B N e q => ?_, fun i t' z' n' l' e => ?_⟩, ⟨fun i hi => ?_, fun i r q e1 e2 => ?_, fun i r q t' e1 e2 e3 => ?_, fun q hq => p.wf.tipr q hq⟩, ⟨fun i hi => p.fr.1 i hi, fun i r q => ?_⟩, fun i hi n => p.vf i hi n, fun i t' z' n' l' e m' hm' => ?_, ⟨p.ext.1.trans r1, fun b hb => ?_⟩, p.mine, p.sub, p.old, p.keep, fun G' hG t' z' n' l' e => ?_⟩
      · have hb := (p.hr.ok i B N e (hokall i q)).block (stay e (hokall i q))
        by_cases hi : i = 0
        · subst hi; rw [hn]; rw [h0] at hb
          have hb : RowOk ρ.d ⟨t, 0 * z, .leaf, [], none⟩ B N w' := hb
          show RowOk ρ.d ⟨t, 0 * T, .leaf, [], none⟩ B N w'
          rw [Nat.zero_mul] at hb ⊢; exact hb
        · rw [hg i hi]; exact hb
      · obtain ⟨r, s, qq, x, y, u⟩ := p.hr.inj i j B N M hij e1 e2 (hokall i k1) (hokall j k2)
        have hi : i ≠ 0 := fun e => by subst e; rw [h0] at x; cases x
        have hj : j ≠ 0 := fun e => by subst e; rw [h0] at y; cases y
        exact ⟨r, s, qq, by rw [hg i hi]; exact x, by rw [hg j hj]; exact y, u⟩
      · by_cases hi : i = 0
        · subst hi; rw [hn] at e; cases e
        · rw [hg i hi] at e; exact p.hr.gl i r e
      · rcases p.hr.sep i B N e (hokall i q) with x | ⟨r, x⟩
        · exact .inl x
        · exact .inr ⟨r, by rw [hg i (fun e => by subst e; rw [h0] at x; cases x)]; exact x⟩
      · by_cases hi : i = 0
        · subst hi; rw [hn] at e; cases e; exact ⟨by simp, .inl ⟨rfl, ((p.hr.av 0 t z 0 [] h0).2.resolve_right fun q => q.1 rfl).2⟩⟩
        · rw [hg i hi] at e; exact p.hr.av i t' z' n' l' e
      · have hi' : h.nxt ≤ i := hi
        by_cases hi0 : i = 0
        · subst hi0; rw [p.wf.fresh 0 hi'] at h0; cases h0
        · rw [hg i hi0]; exact p.wf.fresh i hi'
      · by_cases hi : i = 0
        · subst hi; rw [hn] at e1; cases e1
        · rw [hg i hi] at e1; exact p.wf.root i r q e1 e2
      · by_cases hi : i = 0
        · subst hi; rw [hn] at e1; cases e1
        · rw [hg i hi] at e1
          obtain ⟨s, x, y⟩ := p.wf.tip i r q t' e1 e2 e3
          exact ⟨s, by rw [hg t' (fun e => by subst e; rw [h0] at x; cases x)]; exact x, y⟩
      · have := p.fr.2 i r q
        rw [hg i (fun e => by subst e; rw [h0] at this; cases this)]; exact this
      · by_cases hi : i = 0
        · subst hi; rw [hn] at e; cases e; exact p.vu 0 t z 0 [] h0 m' hm'
        · rw [hg i hi] at e; exact p.vu i t' z' n' l' e m' hm'
      · rw [r2 b (Nat.lt_of_lt_of_le hb.1 p.ext.1.size) (fun q => s8 b q hb)]; exact p.ext.2 b hb
      · rw [hX] at hG; cases hG
        rw [hn] at e; cases e
        refine ⟨S', ρ.F, hJ, fun b q => (r5 b q).1, fun i B N e q => ?_, ⟨fun b q => rfl, fun _ _ _ e => e⟩, Nat.le_trans s5 r1.size, r4 _ s6, ⟨N1, s7⟩, fun b q hb => ?_⟩
        · obtain ⟨a1, a2⟩ := s3 i B N e (hokall i q)
          refine ⟨fun q' => ?_, a2⟩
          rcases (r5 B q').2 with x | x
          · exact a1 x
          · have := p.hr.lt i B N e; omega
        · rcases (r5 b q).2 with x | x
          · exact s8 b x hb
          · have := Nat.lt_of_lt_of_le hb.1 p.ext.1.size; omega
    subst hzz
    exact h5 (.bool bb) ⟨e0, _, m⟩ (.bool bb) w' ρ ⟨e0.set und d (.bool bb), by rw [hd]; exact setD_some hs, hops.run _ (he.set d _)⟩ h1 hpi h3 h4 (by simp only [VR])
  rcases r6 with ⟨hz, hJ⟩ | ⟨hz, hJ⟩
  · exact fin (z + 1) true hz hJ n1
  · exact fin _ false hz hJ n2⟩
end
end Go.Px
end
/- PxVd -/
section
set_option linter.unusedVariables false
set_option linter.unusedSimpArgs false
namespace Go.Px

/-- behind a piece that was gone through from a base of its own -/
theorem PI.leg {X : Cx} {ρ : Map} {h : Heap} {w : World} (p : PI X ρ h w) {S : Nat → Prop} (hS : ∀ b, S b → ¬ X.shut b) {ro : Option Nat} {hid : List Nat} {F : Nat → List Value} (hF : ∀ (b j : Nat) (x : Value), (ρ.F b)[j]? = some x → (F b)[j]? = some x) (hold : ∀ b, X.shut b → F b = ρ.F b) {ρ' : Map} {h' : Heap} {w' : World}
    (q : PI ⟨X.c, w, F, fun b => (∃ i N, ρ i = some (b, N)) ∨ S b, X.g, ro, hid, X.gv, X.gx⟩ ρ' h' w') :
    PI X ρ' h' w' ∧ Same w w' ∧ (∀ b, b < w.heap.size → ¬ ((∃ i N, ρ i = some (b, N)) ∨ S b) → w'.heap[b]? = w.heap[b]? ∧ ρ'.F b = F b ∧ ∀ i N, ρ' i ≠ some (b, N)) ∧ (∀ (b j : Nat) (x : Value), (F b)[j]? = some x → (ρ'.F b)[j]? = some x) ∧
      ∃ S' Fo', GhW X ρ' h' w' S' Fo' ∧ (∀ b, S' b → b < w'.heap.size) ∧ (∀ b, S' b → ¬ X.shut b) ∧ ∀ b, b < w.heap.size → ¬ ((∃ i N, ρ i = some (b, N)) ∨ S b) → ¬ S' b := by
  have p' := p.rebase hS hF hold q q.keep
  obtain ⟨S', Fo', s1, s2, s3⟩ := q.gh.wit
  refine ⟨p', q.ext.1, fun b hb hn => ⟨q.ext.2 b ⟨hb, hn⟩, q.old b ⟨hb, hn⟩, fun i N e => q.mine i b N e ⟨hb, hn⟩⟩, q.sub, S', Fo', fun G hG t z n l e => ?_, s2, fun b a hb => ?_, fun b hb hn a => s3 b a ⟨hb, hn⟩⟩
  · obtain ⟨a1, a2, a3, a4, a5, a6, a7, a8⟩ := s1 G hG t z n l e
    refine ⟨a1, a2, a3, a4, a5, a6, a7, fun b a hb => a8 b a ?_⟩
    exact ⟨Nat.lt_of_lt_of_le hb.1 p.ext.1.size, fun y => y.elim (fun ⟨i, N, e⟩ => p.mine i b N e hb) (fun a => hS b a hb)⟩
  · exact s3 b a ⟨Nat.lt_of_lt_of_le hb.1 p.ext.1.size, fun y => y.elim (fun ⟨i, N, e⟩ => p.mine i b N e hb) (fun a => hS b a hb)⟩

/-- where a piece begins -/
structure Base where
  w0 : World
  F0 : Nat → List Value
  opn : Nat → Prop
  ro : Option Nat
  gx : List Value
def XH (X : Cx) (L : List (Nat × AV)) (n : Nat) (m : List Nat) (b : Base) : Cx := ⟨X.c, b.w0, b.F0, b.opn, X.g, b.ro, [], held L (n :: m) none ++ X.gv, b.gx⟩
/-- behind a round's body -/
def QB (X : Cx) (sz : Nat) (k : List It) (L : List (Nat × AV)) (n : Nat) (m : List Nat) (Q : Post) (h' : Heap) (b : Base) : Post := fun x s =>
  match x with
  | .normal => ChgE (XH X L n m b) s.h h'
  | x => ∀ e, Has e L → RunK X sz none k Q x ⟨e, s.h, n :: m⟩
/-- behind the assigning -/
def QA (X : Cx) (sz : Nat) (k : List It) (L : List (Nat × AV)) (n : Nat) (m : List Nat) (Q : Post) (h' : Heap) (body : Code) : Post := fun x s =>
  x = .normal ∧ ∀ b, RunK (XH X L n m b) sz none [.code body] (QB X sz k L n m Q h' b) .normal s
section
variable {X : Cx} {sz : Nat} {k : List It} {L L' : List (Nat × AV)} {h h' : Heap} {n : Nat} {m m' : List Nat} {Q : Post}
theorem Go.bodyK {X' : Cx} {body : Code} (H : ∀ b, Go (XH X L n m b) sz none [.code body] L' h m' (QB X sz k L n m Q h' b)) : Go X' sz none [] L' h m' (QA X sz k L n m Q h' body) :=
  Go.nil fun e he => ⟨rfl, fun b => (H b).run e he⟩
theorem Go.nextK {b : Base} (H : ChgE (XH X L n m b) h h') : Go (XH X L n m b) sz none [] L' h m' (QB X sz k L n m Q h' b) :=
  Go.nil fun e he => H
theorem Go.stopR {b : Base} {k' : List It} (H : ∀ e, Has e L → Q .ret ⟨e, h, n :: m⟩) : Go (XH X L n m b) sz none (.code .ret :: k') L' h m' (QB X sz k L n m Q h' b) :=
  Go.ret fun e he => fun e' he' => ret_run (H e' he')
theorem Go.stopX {b : Base} {id : Nat} {k' k2 : List It} (hx : xit id k' = none) (h2 : xit id k = some k2) (H : Go X sz none k2 L h (n :: m) Q) : Go (XH X L n m b) sz none (.code (.exit id) :: k') L' h m' (QB X sz k L n m Q h' b) := ⟨fun e he => Tri.exit (by
  have key : ∀ {k' : List It}, xit id k' = none → RunK (XH X L n m b) sz none k' (QB X sz k L n m Q h' b) (.exit id) ⟨e, h, m'⟩ := by
    intro k'
    induction k' with
    | nil => intro _; exact fun e' he' => xit_run h2 (H.run e' he')
    | cons x k' ih =>
      intro q
      cases x with
      | code c => exact ih q
      | lp c => exact ih q
      | blk i =>
        unfold xit at q
        rw [show RunK (XH X L n m b) sz none (.blk i :: k') (QB X sz k L n m Q h' b) (.exit id) ⟨e, h, m'⟩ = (match Nat.beq id i with | true => RunK (XH X L n m b) sz none k' (QB X sz k L n m Q h' b) .normal ⟨e, h, m'⟩ | false => RunK (XH X L n m b) sz none k' (QB X sz k L n m Q h' b) (.exit id) ⟨e, h, m'⟩) from rfl]
        cases hi : Nat.beq id i with
        | true => rw [hi] at q; cases q
        | false => rw [hi] at q; exact ih q
  exact key hx)⟩
end
theorem pendOf_some {x : Ex} (h : x ≠ .normal) : ∃ c, exCode x = some c := by
  cases x with
  | normal => exact absurd rfl h
  | exit id => exact ⟨_, rfl⟩
  | ret => exact ⟨_, rfl⟩
/-- A RANGE OVER A FUNCTION THAT ITERATES: 'H': the heap at each round's head. -/
theorem Go.rangeK {X : Cx} {tb : List (Nat × TE)} (E : Env X.c tb) {sz : Nat} {k : List It} {L : List (Nat × AV)} {h : Heap} {m : List Nat} {Q : Post} (n : Nat) {f : Operand} {ps : Array Tmp} {assign body : Code} {g : FuncId} {cap : List AV} {items : List (List AV)} (hn : h.nxt = n) (hfv : evL L f = some (.fn (.func g) [] cap)) (hdat : datsB cap = true) (hk : KIt X.c g cap items) (hon : onceB L = true)
    (H : Nat → Heap) (h0 : ∀ b, ChgE (XH X L n m b) (newAt n h (.dfr true)) (H 0)) (hps : ∀ (j : Nat) (v : List AV), items[j]? = some v → Nat.beq ps.toList.length v.length = true) (hps2 : (ps.toList.all fun p => Nat.ble (p + 1) sz) = true)
    (hbody : ∀ (j : Nat) (v : List AV), items[j]? = some v → ∀ b, Go (XH X L n m b) sz none [.code assign] (setL ps.toList v L) (H j) [] (QA X sz k L n m Q (H (j + 1)) body))
    (nx : Go X sz none k L (H items.length) (n :: m) Q) (hro : X.ro = none := by rfl) (hgn : X.g = none ∨ ∃ t z q l, h.get 0 = .arr t z q l := by first | exact .inl rfl | exact .inr ⟨_, _, _, _, rfl⟩) :
    Go X sz none (.code (.rangeFunc f ps assign body) :: k) L h m Q := ⟨fun e0 he => by
  subst hn
  intro ro ρ w a Q' h1 p h3 h4 h5
  have hro' : ro = none := (show ro = X.ro from h1).trans hro
  subst hro'
  refine wpIn_rangeFunc fun fn' _ => ?_
  -- the block of what is put off
  have g1 := Good.newBlock p.hr p.wf (p.fr.1 _ (Nat.le_refl _)) (.dfr true) (.deferred (some [])) 0 (fun r q => by cases q) (by simp only [ABR]; exact World.alloc_heap_new _ _)
  have p1 := p.good g1 (ArrKeep.new rfl)
  have hs1 : Sub ρ (upd ρ h.nxt (w.heap.size, 0)) := g1.sub
  generalize hwA : w.alloc (.deferred (some [])) = wA at *
  have hsA : wA.heap.size = w.heap.size + 1 := by rw [← hwA]; simp [World.size_alloc]
  generalize hρ1 : upd ρ h.nxt (w.heap.size, 0) = ρ1 at *
  have hm1 : MRX X ρ1 (h.nxt :: m) ([{ target := .collected w.heap.size, args := #[] }] ++ a.defers) :=
    MRX.push (m := [h.nxt]) (D := [{ target := .collected w.heap.size, args := #[] }]) ⟨w.heap.size, 0, [], (by rw [← hρ1]; exact upd_same _ _ _), rfl, rfl⟩ (h4.mono hs1)
  obtain ⟨gx0, b1, b2⟩ := held_in (X := X) (rd := none) (L := L) (h1.mono hs1) (h3.mono hs1) he hon hm1
  -- the loop's block
  have hB : (wA.alloc (.loop { state := .ready, pending := none, fn := fn', tmps := a.tmps, params := ps, assign, body, defers := w.heap.size })).heap.size = wA.heap.size + 1 := by simp [World.size_alloc]
  have hBl : (wA.alloc (.loop { state := .ready, pending := none, fn := fn', tmps := a.tmps, params := ps, assign, body, defers := w.heap.size })).heap[wA.heap.size]? = some (.loop { state := .ready, pending := none, fn := fn', tmps := a.tmps, params := ps, assign, body, defers := w.heap.size }) := World.alloc_heap_new _ _
  have hBo : ∀ b, b < wA.heap.size → (wA.alloc (.loop { state := .ready, pending := none, fn := fn', tmps := a.tmps, params := ps, assign, body, defers := w.heap.size })).heap[b]? = wA.heap[b]? := fun b hb => by
    show (wA.heap.push _)[b]? = _
    rw [Array.getElem?_push, if_neg (by omega)]
  have hBs : Same wA (wA.alloc (.loop { state := .ready, pending := none, fn := fn', tmps := a.tmps, params := ps, assign, body, defers := w.heap.size })) := ⟨rfl, rfl, rfl, by omega⟩
  have hent : (Instr.enterLoop fn' a.tmps ps assign body none).run X.c.P w = .ok (wA.heap.size, [{ target := .collected w.heap.size, args := #[] }]) (wA.alloc (.loop { state := .ready, pending := none, fn := fn', tmps := a.tmps, params := ps, assign, body, defers := w.heap.size })) := by
    rw [run_enterLoop_outer, hwA, hsA]
  generalize wA.alloc (.loop { state := .ready, pending := none, fn := fn', tmps := a.tmps, params := ps, assign, body, defers := w.heap.size }) = wB at *
  generalize hB' : wA.heap.size = B at *
  have hgn' : ∀ G, X.g = some G → G.n0 ≤ w.heap.size := fun G hG => by
    rcases hgn with q | ⟨t, z, q, l, e⟩
    · rw [q] at hG; cases hG
    · obtain ⟨_, _, _, _, _, _, a, _⟩ := p.gh G hG t z q l e; exact a
  have hw0 : X.w0.heap.size ≤ w.heap.size := p.ext.1.size
  obtain ⟨S0, Fo0, s1, s2, s3⟩ := p1.gh.wit
  obtain ⟨p2, gw⟩ := p1.world hBs (U := fun _ => True) (fun b hb _ => hBo b (by omega)) (fun _ _ _ _ => trivial) (fun _ _ => trivial) (fun _ _ => trivial) s1 (fun _ _ => trivial) (fun _ _ _ _ => trivial)
  have hX : PI ⟨X.c, X.w0, X.F0, X.opn, X.g, none, [], held L (h.nxt :: m) none ++ X.gv, gx0 ++ X.gx⟩ ρ1 (h.new (.dfr true)) wB := p2.more b1
  have lt1 : ∀ i b N, ρ1 i = some (b, N) → b < B := fun i b N e => by have := p1.hr.lt i b N e; omega
  have hb0 : PI (XH X L h.nxt m ⟨wB, ρ1.F, fun b => (∃ i N, ρ1 i = some (b, N)) ∨ S0 b, none, gx0 ++ X.gx⟩) ρ1 (h.new (.dfr true)) wB :=
    hX.base (S := S0) gw none [] _ _ hX.keep (F := ρ1.F) (fun _ _ _ e => e) hX.hr.fz (fun _ _ _ _ => rfl) (fun _ _ => rfl) (fun _ _ _ _ => rfl)
  rw [new_at rfl] at hb0
  obtain ⟨ρ2, p3⟩ := h0 _ ρ1 wB hb0
  obtain ⟨p4, _, fr0, sF0, S2, Fo2, gw2, lt2, nsh2, out2⟩ := hX.leg (S := S0) (fun b q => s3 b q) (F := ρ1.F) (fun _ _ _ e => e) (fun _ _ => rfl) p3
  have hBnot : ¬ ((∃ i N, ρ1 i = some (B, N)) ∨ S0 B) := fun q => q.elim (fun ⟨i, N, e⟩ => Nat.lt_irrefl _ (lt1 i B N e)) fun q => by have := s2 B q; omega
  have hBlt : B < wB.heap.size := by omega
  obtain ⟨_, hBF, hBi⟩ := fr0 B hBlt hBnot
  have hBS := out2 B hBlt hBnot
  have hF1B : ρ1.F B = [] := Classical.byContradiction fun q => by have := p1.hr.F_lt q; omega
  rw [hF1B] at hBF
  let X' : Cx := ⟨X.c, X.w0, X.F0, X.opn, X.g, none, [], held L (h.nxt :: m) none ++ X.gv, gx0 ++ X.gx⟩
  let rec_ : LoopState → Option Ex → Obj := fun st pd => .loop { state := st, pending := pendOf pd, fn := fn', tmps := a.tmps, params := ps, assign, body, defers := w.heap.size }
  let J : Nat → (Nat → Prop) → (Nat → List Value) → World → Prop := fun j S Fo w' => ∃ (ρ' : Map) (T : Nat → Prop) (Ft : Nat → List Value) (hh : Heap) (st : LoopState) (pd : Option Ex),
    PI X' ρ' hh w' ∧ GhW X' ρ' hh w' T Ft ∧ (∀ b, T b → S b ∧ ¬ X'.shut b) ∧ (∀ i b N, ρ' i = some (b, N) → S b ∧ b ≠ B) ∧ (ρ'.F B = [] ∧ ∀ b, ¬ (S b ∨ b < wB.heap.size) → ρ'.F b = Fo b) ∧ (∀ (b i : Nat) (x : Value), (Fo b)[i]? = some x → (ρ'.F b)[i]? = some x) ∧
      S B ∧ ¬ T B ∧ B < w'.heap.size ∧ w'.heap[B]? = some (rec_ st pd) ∧ ((j ≤ items.length ∧ st = .ready ∧ pd = none ∧ hh = H j) ∨ (j = items.length + 1 ∧ st = .done ∧ ∃ x, pd = some x ∧ x ≠ .normal ∧ ∀ e, Has e L → RunK X sz none k Q x ⟨e, hh, h.nxt :: m⟩))
  have hstab : ∀ j S Fo w1 w2, J j S Fo w1 → Same w1 w2 → (∀ b, b < w1.heap.size → (S b ∨ b < wB.heap.size ∨ Fo b ≠ []) → w2.heap[b]? = w1.heap[b]?) → J j S Fo w2 := fun j S Fo w1 w2 ⟨ρ', T, Ft, hh, st, pd, j1, j2, j3, j4, j5, j6, j7, j8, j9, j10, j11⟩ hsm hun => by
    obtain ⟨q1, q2⟩ := j1.world hsm (U := fun b => S b ∨ b < wB.heap.size ∨ Fo b ≠ []) hun (fun i b N e => .inl (j4 i b N e).1) (fun b e => by
      by_cases q : S b ∨ b < wB.heap.size
      · exact q.elim .inl fun q => .inr (.inl q)
      · rw [j5.2 b q] at e; exact .inr (.inr e)) (fun b hb => .inr (.inl (by have hb : b < X.w0.heap.size := hb; omega))) j2 (fun b q => .inl (j3 b q).1) (fun G hG b hb => .inr (.inl (by have := hgn' G hG; omega)))
    exact ⟨ρ', T, Ft, hh, st, pd, q1, q2, j3, j4, j5, j6, j7, j8, Nat.lt_of_lt_of_le j9 hsm.size, (hun B j9 (.inl j7)).trans j10, j11⟩
  have hstep : ∀ j S w1 v V (Fo F' : Nat → List Value), items[j]? = some v → J j S Fo w1 → wB.heap.size ≤ w1.heap.size → (∀ b, S b → b < w1.heap.size) → (∀ b, S b ∨ b < wB.heap.size → F' b = Fo b) → (∀ (b i : Nat) (x : Value), (Fo b)[i]? = some x → (F' b)[i]? = some x) → FzW F' w1 → VRs (fzm F') v V →
      ∃ nx w2, (Instr.yield B V.toArray).run X.c.P w1 = .ok nx w2 ∧ NextOk X.c.P (fun z w' => Same w1 w' ∧ (∀ b, b < w1.heap.size → ¬ S b → w'.heap[b]? = w1.heap[b]?) ∧ FzW F' w' ∧
      ∃ S', (∀ b, S b → S' b) ∧ (∀ b, S' b → b < w'.heap.size ∧ (S b ∨ w1.heap.size ≤ b)) ∧ ((z = .bool true ∧ J (j + 1) S' F' w') ∨ (z = .bool false ∧ J (items.length + 1) S' F' w'))) nx w2 := fun j S w1 v V Fo F' hit ⟨ρ', T, Ft, hh, st, pd, j1, j2, j3, j4, j5, j6, j7, j8, j9, j10, j11⟩ hn0 hSlt hF' hFF' hfz hV => by
    have hjl : j < items.length := (List.getElem?_eq_some_iff.1 hit).1
    obtain ⟨_, rfl, rfl, rfl⟩ : j ≤ items.length ∧ st = .ready ∧ pd = none ∧ hh = H j := by
      rcases j11 with q | q
      · exact q
      · have := q.1; omega
    -- what is known of one's own data now
    let F2 : Nat → List Value := fun b => @ite _ (S b ∨ b < wB.heap.size) (Classical.propDecidable _) (ρ'.F b) (F' b)
    have f1 : ∀ b, (S b ∨ b < wB.heap.size) → F2 b = ρ'.F b := fun b q => if_pos q
    have f2 : ∀ b, ¬ (S b ∨ b < wB.heap.size) → F2 b = F' b := fun b q => if_neg q
    have f3 : ∀ (b i : Nat) (x : Value), (ρ'.F b)[i]? = some x → (F2 b)[i]? = some x := fun b i x e => by
      by_cases q : S b ∨ b < wB.heap.size
      · rw [f1 b q]; exact e
      · rw [f2 b q]; rw [j5.2 b q] at e; exact hFF' b i x e
    have f4 : ∀ (b i : Nat) (x : Value), (F' b)[i]? = some x → (F2 b)[i]? = some x := fun b i x e => by
      by_cases q : S b ∨ b < wB.heap.size
      · rw [f1 b q]; rw [hF' b q] at e; exact j6 b i x e
      · rw [f2 b q]; exact e
    have f5 : FzW F2 w1 := fun b i x e => by
      by_cases q : S b ∨ b < wB.heap.size
      · rw [f1 b q] at e; exact j1.hr.fz b i x e
      · rw [f2 b q] at e; exact hfz b i x e
    have hsh : ∀ b, X'.shut b → F2 b = ρ'.F b := fun b q => f1 b (.inr (by have q : b < X.w0.heap.size := q.1; omega))
    have pa := j1.base j2 (some B) [] _ _ j1.keep (F := F2) f3 f5 (fun i b N e => f1 b (.inl (j4 i b N e).1)) (fun b q => f1 b (.inl (j3 b q).1)) (fun G hG b hb => f1 b (.inr (by have := hgn' G hG; omega)))
    -- its round begins
    have hlenV : V.length = v.length := hV.length.symm
    have hps' := beqT (hps j v hit)
    have hy := run_yield (P := X.c.P) (args := V.toArray) j10 (by simp only [List.size_toArray]; rw [hlenV, ← hps']; simp)
    refine ⟨_, w1, hy, ?_⟩
    refine roundIn_of_wpIn trivial ?_
    have hz : (ps.zip V.toArray).foldl (fun tmps (p : Tmp × Value) => tmps.setIfInBounds p.1 p.2) a.tmps = (ps.toList.zip V).foldl (fun tmps (p : Tmp × Value) => tmps.setIfInBounds p.1 p.2) a.tmps := by
      rw [← Array.foldl_toList]
      congr 1
      simp [Array.toList_zip]
    obtain ⟨v1, v2⟩ := VRs.split b1.length j1.keep
    obtain ⟨_, _, u3⟩ := b2 ρ' v1
    obtain ⟨e1, he1, er1⟩ := known_env (σ := ρ') (L := L) (tm := a.tmps) (sz := sz) h3.1 u3
    have hsF : Sub ρ' ⟨ρ'.m, F2, ρ'.V⟩ := ⟨fun _ _ e => e, f3, fun _ _ _ e => e⟩
    obtain ⟨e2, hpe⟩ := setPs_some (sz := sz) e1 (hps j v hit) hps2
    have hV2 : VRs ⟨ρ'.m, F2, ρ'.V⟩ v V := VRs.mono (ρ := fzm F') (σ := ⟨ρ'.m, F2, ρ'.V⟩) ⟨fun _ _ e => (by cases e), f4, fun _ _ _ e => (by cases e)⟩ v hV
    obtain ⟨_, her⟩ := setPs_ok hpe hV2 (er1.mono hsF)
    have hhas := setPs_has hpe he1
    have hA := (hbody j v hit ⟨w1, F2, fun b => (∃ i N, ρ' i = some (b, N)) ∨ T b, some B, gx0 ++ X.gx⟩).run e2 hhas
    have htA : Tri (XH X L h.nxt m ⟨w1, F2, fun b => (∃ i N, ρ' i = some (b, N)) ∨ T b, some B, gx0 ++ X.gx⟩) sz none assign ⟨e2, H j, []⟩ (QA X sz k L h.nxt m Q (H (j + 1)) body) := hA
    refine htA (some B) ⟨ρ'.m, F2, ρ'.V⟩ w1 _ _ rfl pa (by rw [hz]; exact her) ⟨[], rfl, rfl⟩ fun x s' a1 w2 σ1 ⟨hx, hrunB⟩ g1 g2 g3 g4 => ?_
    subst hx
    have hnotB : ¬ ((∃ i N, ρ' i = some (B, N)) ∨ T B) := fun q => q.elim (fun ⟨i, N, e⟩ => (j4 i B N e).2 rfl) j8
    obtain ⟨c1, c2, c3, c4, T1, Ft1, c5, c6, c7, c8⟩ := j1.leg (fun b q => (j3 b q).2) f3 hsh g2
    obtain ⟨d1, d2, d3⟩ := c3 B j9 hnotB
    have hF2B : F2 B = [] := by
      rw [f1 B (.inl j7)]; exact j5.1
    rw [hF2B] at d2
    rw [j10] at d1
    have hB2 : B < w2.heap.size := Nat.lt_of_lt_of_le j9 c2.size
    refine ⟨_, run_beginRound d1 rfl, ?_⟩
    -- its body
    have hput : ∀ (W : World) (o : Obj), Same W (W.putObj B o) := fun W o => ⟨rfl, rfl, rfl, by simp [World.putObj_size]⟩
    obtain ⟨p5, gw5⟩ := c1.world (hput w2 (rec_ .busy none)) (U := fun b => b ≠ B) (fun b _ q => World.putObj_heap_other q) (fun i b N e q => d3 i N (q ▸ e)) (fun b e q => e (q ▸ d2)) (fun b hb q => by have hb : b < X.w0.heap.size := hb; omega) c5 (fun b e q => c8 B j9 hnotB (q ▸ e)) (fun G hG b hb q => by have := hgn' G hG; omega)
    have pb := p5.base gw5 (some B) [] _ _ p5.keep (F := σ1.F) (fun _ _ _ e => e) p5.hr.fz (fun _ _ _ _ => rfl) (fun _ _ => rfl) (fun _ _ _ _ => rfl)
    have htB : Tri (XH X L h.nxt m ⟨w2.putObj B (rec_ .busy none), σ1.F, fun b => (∃ i N, σ1 i = some (b, N)) ∨ T1 b, some B, gx0 ++ X.gx⟩) sz none body s' (QB X sz k L h.nxt m Q (H (j + 1)) ⟨w2.putObj B (rec_ .busy none), σ1.F, fun b => (∃ i N, σ1 i = some (b, N)) ∨ T1 b, some B, gx0 ++ X.gx⟩) := hrunB _
    refine htB (some B) σ1 _ a1 _ rfl pb g3 g4 fun x s2 a2 w3 σ2 hQ k1 k2 k3 k4 => ?_
    have hB2' : B < (w2.putObj B (rec_ .busy none)).heap.size := by simp only [World.putObj_size]; exact hB2
    have hnotB2 : ¬ ((∃ i N, σ1 i = some (B, N)) ∨ T1 B) := fun q => q.elim (fun ⟨i, N, e⟩ => d3 i N e) (c8 B j9 hnotB)
    -- what both ends have in common
    have fin : ∀ (st2 : LoopState) (pd2 : Option Ex) (bb : Bool) (σ3 : Map) (h3' : Heap), PI (XH X L h.nxt m ⟨w2.putObj B (rec_ .busy none), σ1.F, fun b => (∃ i N, σ1 i = some (b, N)) ∨ T1 b, some B, gx0 ++ X.gx⟩) σ3 h3' w3 →
        (∃ j', ((bb = true ∧ j' = j + 1) ∨ (bb = false ∧ j' = items.length + 1)) ∧ ((j' ≤ items.length ∧ st2 = .ready ∧ pd2 = none ∧ h3' = H j') ∨ (j' = items.length + 1 ∧ st2 = .done ∧ ∃ x, pd2 = some x ∧ x ≠ .normal ∧ ∀ e, Has e L → RunK X sz none k Q x ⟨e, h3', h.nxt :: m⟩))) →
        w3.heap[B]? = some (rec_ .busy none) ∧ (Same w1 (w3.putObj B (rec_ st2 pd2)) ∧ (∀ b, b < w1.heap.size → ¬ S b → (w3.putObj B (rec_ st2 pd2)).heap[b]? = w1.heap[b]?) ∧ FzW F' (w3.putObj B (rec_ st2 pd2)) ∧
          ∃ S', (∀ b, S b → S' b) ∧ (∀ b, S' b → b < (w3.putObj B (rec_ st2 pd2)).heap.size ∧ (S b ∨ w1.heap.size ≤ b)) ∧ ((Value.bool bb = .bool true ∧ J (j + 1) S' F' (w3.putObj B (rec_ st2 pd2))) ∨ (Value.bool bb = .bool false ∧ J (items.length + 1) S' F' (w3.putObj B (rec_ st2 pd2))))) := fun st2 pd2 bb σ3 h3' pq ⟨j', hj', hend⟩ => by
      obtain ⟨e1, e2, e3, e4, T2, Ft2, e5, e6, e7, e8⟩ := p5.leg c7 (fun _ _ _ e => e) (fun _ _ => rfl) pq
      obtain ⟨x1, x2, x3⟩ := e3 B hB2' hnotB2
      rw [World.putObj_heap_same hB2] at x1
      rw [d2] at x2
      have hT2 := e8 B hB2' hnotB2
      have hB3 : B < w3.heap.size := Nat.lt_of_lt_of_le hB2' e2.size
      obtain ⟨p6, gw6⟩ := e1.world (hput w3 (rec_ st2 pd2)) (U := fun b => b ≠ B) (fun b _ q => World.putObj_heap_other q) (fun i b N e q => x3 i N (q ▸ e)) (fun b e q => e (q ▸ x2)) (fun b hb q => by have hb : b < X.w0.heap.size := hb; omega) e5 (fun b e q => hT2 (q ▸ e)) (fun G hG b hb q => by have := hgn' G hG; omega)
      have hsz : w1.heap.size ≤ w3.heap.size := by
        have := c2.size
        have := e2.size
        simp only [World.putObj_size] at this
        omega
      -- where things lie
      have old1 : ∀ b, b < w1.heap.size → ¬ S b → ¬ ((∃ i N, ρ' i = some (b, N)) ∨ T b) := fun b _ q y => y.elim (fun ⟨i, N, e⟩ => q (j4 i b N e).1) fun y => q (j3 b y).1
      have old2 : ∀ b, b < w1.heap.size → ¬ S b → b < (w2.putObj B (rec_ .busy none)).heap.size ∧ ¬ ((∃ i N, σ1 i = some (b, N)) ∨ T1 b) := fun b hb q => by
        refine ⟨by simp only [World.putObj_size]; have := c2.size; omega, fun y => y.elim (fun ⟨i, N, e⟩ => ?_) fun y => c8 b hb (old1 b hb q) y⟩
        exact (c3 b hb (old1 b hb q)).2.2 i N e
      have old3 : ∀ b, b < w1.heap.size → ¬ S b → w3.heap[b]? = w1.heap[b]? ∧ σ3.F b = F2 b ∧ (∀ i N, σ3 i ≠ some (b, N)) ∧ ¬ T2 b := fun b hb q => by
        obtain ⟨y1, y2⟩ := old2 b hb q
        obtain ⟨z1, z2, z3⟩ := e3 b y1 y2
        obtain ⟨t1, t2, _⟩ := c3 b hb (old1 b hb q)
        have hne : b ≠ B := fun e => q (e ▸ j7)
        exact ⟨(z1.trans (World.putObj_heap_other hne)).trans t1, z2.trans t2, z3, e8 b y1 y2⟩
      have hFF : ∀ (b i : Nat) (x : Value), (F2 b)[i]? = some x → (σ3.F b)[i]? = some x := fun b i x e => e4 b i x (c4 b i x e)
      have hJ : J j' (fun b => S b ∨ (w1.heap.size ≤ b ∧ b < w3.heap.size)) F' (w3.putObj B (rec_ st2 pd2)) := by
        refine ⟨σ3, T2, Ft2, h3', st2, pd2, p6, gw6, fun b q => ⟨?_, e7 b q⟩, fun i b N e => ⟨?_, fun q => x3 i N (q ▸ e)⟩, ⟨x2, fun b q => ?_⟩, fun b i x e => hFF b i x (f4 b i x e), .inl j7, hT2, by simp only [World.putObj_size]; exact hB3, World.putObj_heap_same hB3, hend⟩
        · by_cases hb : b < w1.heap.size
          · exact .inl (Classical.byContradiction fun hn => (old3 b hb hn).2.2.2 q)
          · exact .inr ⟨by omega, by have := e6 b q; omega⟩
        · by_cases hb : b < w1.heap.size
          · exact .inl (Classical.byContradiction fun hn => (old3 b hb hn).2.2.1 i N e)
          · exact .inr ⟨by omega, e1.hr.lt i b N e⟩
        · have q1 : ¬ S b := fun y => q (.inl (.inl y))
          have q2 : ¬ b < wB.heap.size := fun y => q (.inr y)
          by_cases hb : b < w1.heap.size
          · rw [(old3 b hb q1).2.1, f2 b (fun y => y.elim q1 q2)]
          · have hb3 : ¬ b < w3.heap.size := fun y => q (.inl (.inr ⟨by omega, y⟩))
            have r1 : σ3.F b = [] := Classical.byContradiction fun y => hb3 (e1.hr.F_lt y)
            rw [r1, fo_nil (fun b i x e => hFF b i x (f4 b i x e)) r1]
      refine ⟨x1, ⟨(c2.trans (hput w2 _)).trans (e2.trans (hput w3 _)), fun b hb q => ?_, fun b i x e => p6.hr.fz b i x (hFF b i x (f4 b i x e)), fun b => S b ∨ (w1.heap.size ≤ b ∧ b < w3.heap.size), fun b q => Or.inl q, fun b q => ⟨?_, ?_⟩, ?_⟩⟩
      · rw [World.putObj_heap_other (fun e : b = B => q (by rw [e]; exact j7))]; exact (old3 b hb q).1
      · simp only [World.putObj_size]
        rcases q with q | q
        · have := hSlt b q; omega
        · exact q.2
      · rcases q with q | q
        · exact .inl q
        · exact .inr q.1
      · rcases hj' with ⟨rfl, rfl⟩ | ⟨rfl, rfl⟩
        · exact .inl ⟨rfl, hJ⟩
        · exact .inr ⟨rfl, hJ⟩
    cases x with
    | normal =>
      obtain ⟨σ3, pq⟩ := hQ σ2 w3 k2
      obtain ⟨y1, y2⟩ := fin .ready none true σ3 _ pq ⟨j + 1, .inl ⟨rfl, rfl⟩, .inl ⟨hjl, rfl, rfl, rfl⟩⟩
      exact ⟨_, _, run_endRound none y1, y2⟩
    | exit id =>
      obtain ⟨y1, y2⟩ := fin .done (some (.exit id)) false σ2 _ k2 ⟨items.length + 1, .inr ⟨rfl, rfl⟩, .inr ⟨rfl, rfl, _, rfl, (by simp), hQ⟩⟩
      exact ⟨_, _, run_endRound (some (.exit id)) y1, y2⟩
    | ret =>
      obtain ⟨y1, y2⟩ := fin .done (some .ret) false σ2 _ k2 ⟨items.length + 1, .inr ⟨rfl, rfl⟩, .inr ⟨rfl, rfl, _, rfl, (by simp), hQ⟩⟩
      exact ⟨_, _, run_endRound (some .ret) y1, y2⟩
  let G : Gho X.c.P := ⟨wB.heap.size, J, hstab, B, items, hstep⟩
  -- the call
  have hfv' := VR.mono hs1 _ (ev_ok h3 f)
  rw [he.ev hfv] at hfv'
  simp only [VR, FR, VRs] at hfv'
  obtain ⟨f', F, C, e1, rfl, e3, e4⟩ := hfv'
  subst e1
  have hC : VRs (fzm ρ2.F) cap C := VRs.mono (ρ := ρ1.d) (σ := fzm ρ2.F) ⟨fun _ _ e => (by cases e), sF0, fun _ _ _ e => (by cases e)⟩ cap (dats_ok cap hdat e3)
  obtain ⟨nx', wc, q1, q2⟩ := hk.run G wB C (fun b => (∃ i N, ρ2 i = some (b, N)) ∨ S2 b ∨ b = B) ρ2.F rfl rfl p4.hr.fz hC (.inr (.inr rfl)) (by
    refine ⟨ρ2, S2, Fo2, H 0, .ready, none, p4, gw2, fun b q => ⟨.inr (.inl q), nsh2 b q⟩, fun i b N e => ⟨.inl ⟨i, N, e⟩, fun q => hBi i N (q ▸ e)⟩, ⟨hBF, fun b q => rfl⟩, fun _ _ _ e => e, .inr (.inr rfl), hBS, hBlt, hBl, .inl ⟨Nat.zero_le _, rfl, rfl, rfl⟩⟩) (fun b q => by
      rcases q with ⟨i, N, e⟩ | q | q
      · exact p4.hr.lt i b N e
      · exact lt2 b q
      · omega)
  obtain ⟨fn, hfn, hbody'⟩ := hk.fn
  obtain ⟨bodyG, hbodyG⟩ := Option.isSome_iff_exists.1 hbody'
  have hnm : fn.name ≠ "runtime.NumGoroutine" := by simpa using E.k.names g fn hfn
  have hcall : ∀ (A : Array Value), (callFunc g A).run X.c.P wB = .ok (.enter g A) wB := fun A => by simp [callFunc, hfn, hnm, hbodyG, Sem.run]
  rw [hcall] at q1
  cases q1
  have harr : (([] : List Value).toArray ++ #[Value.func (.yield B) #[] #[]] ++ C.toArray) = (Value.func (.yield B) #[] #[] :: C).toArray := by apply Array.ext'; simp
  refine ⟨B, [{ target := .collected w.heap.size, args := #[] }], wB, { target := .fn (.func g) C.toArray, args := ([] : List Value).toArray ++ #[Value.func (.yield B) #[] #[]] }, wB, g, ([] : List Value).toArray ++ #[Value.func (.yield B) #[] #[]] ++ C.toArray, wB, hent, ?_, fun _ _ => trivial, ?_, fun q => by simp [wideR, Fence.wide] at q, ?_⟩
  · simp only [resolve, e4, Deferred.ofValue, Sem.run_pure]
    simp [Act.eval]
  · simp only [invoke]
    exact hcall _
  · rw [harr]
    have q3 : CallsIn Fence.wide 0 X.c.P g (Value.func (.yield B) #[] #[] :: C).toArray wB (EndR _) := q2
    refine CallsIn.mono (callsIn_ro q3) fun e w' r => ?_
    cases e with
    | panicked ch => exact r.elim
    | outgrown => exact r.elim
    | returned z =>
      obtain ⟨r1, r2, k', S', F', r3, ρ', T, Ft, hh, st, pd, j1, j2, j3, j4, j5, j6, j7, j8, j9, j10, j11⟩ := r
      have hst : st ≠ .busy := by
        rcases j11 with q | q
        · rw [q.2.1]; simp
        · rw [q.2.1]; simp
      obtain ⟨v1, v2⟩ := VRs.split b1.length j1.keep
      obtain ⟨u1, u2, u3⟩ := b2 ρ' v1
      obtain ⟨p9, _⟩ := j1.world (w' := w'.putObj B (.loop { state := .exhausted, pending := pendOf pd, fn := fn', tmps := a.tmps, params := ps, assign, body, defers := w.heap.size })) ⟨rfl, rfl, rfl, by simp only [World.putObj_size]; omega⟩ (U := fun b => b ≠ B) (fun b _ q => World.putObj_heap_other q) (fun i b N e q => (j4 i b N e).2 q) (fun b e q => e (q ▸ j5.1)) (fun b hb q => by have hb : b < X.w0.heap.size := hb; omega) j2 (fun b e q => j8 (q ▸ e)) (fun G hG b hb q => by have := hgn' G hG; omega)
      have p10 := (PI.less p9 b1.length).1
      obtain ⟨e', he', er'⟩ := known_env (σ := ρ') (L := L) (tm := a.tmps) (sz := sz) h3.1 u3
      refine ⟨pendOf pd, _, run_endLoop j10 hst, ?_⟩
      rcases j11 with ⟨q5, _, rfl, rfl⟩ | ⟨_, _, x, rfl, hxn, hrun⟩
      · have hk' : k' = items.length := by omega
        subst hk'
        exact h5 .normal ⟨e', _, _⟩ { a with defers := [{ target := .collected w.heap.size, args := #[] }] ++ a.defers } _ ρ' (nx.run e' he') u1 p10 er' u2
      · have fin := h5 x ⟨e', _, h.nxt :: m⟩ { a with defers := [{ target := .collected w.heap.size, args := #[] }] ++ a.defers } _ ρ' (hrun e' he') u1 p10 er' u2
        cases x with
        | normal => exact absurd rfl hxn
        | exit id => exact wpIn_exit fin
        | ret => exact wpIn_ret fin⟩
end Go.Px
end
/- FxP -/
section
set_option linter.unusedVariables false
set_option linter.unusedSimpArgs false
set_option maxHeartbeats 4000000
namespace Go.Px.Fx
open Go.Proofs
attribute [local irreducible] Go.Px.KOk
/-- a clause -/
inductive Cl where
  | mk (k : Int) (n : Str) (a : List Ag) (o : Str) (kids : List Cl)
def Cl.k : Cl → Int | .mk k _ _ _ _ => k
def Cl.n : Cl → Str | .mk _ n _ _ _ => n
def Cl.a : Cl → List Ag | .mk _ _ a _ _ => a
def Cl.o : Cl → Str | .mk _ _ _ o _ => o
def Cl.kids : Cl → List Cl | .mk _ _ _ _ l => l
instance : Inhabited Cl := ⟨.mk 0 [] [] [] []⟩
mutual
def encCl : Cl → List AV
  | .mk k n a o kids => [.int .i64 k, sA n, argsA a, sA o, .rsl kids.length 5 (encCls kids)]
def encCls : List Cl → List AV
  | [] => []
  | c :: r => encCl c ++ encCls r
end
def clsA (l : List Cl) : AV := .rsl l.length 5 (encCls l)
def encF (c : Cl) : List AV := [.int .i64 c.k, sA c.n, argsA c.a, sA c.o, clsA c.kids]
theorem encCls_eq : ∀ l : List Cl, encCls l = l.flatMap encF
  | [] => by simp [encCls]
  | .mk k n a o kids :: r => by
    simp only [encCls, encCl, List.flatMap_cons, encF, Cl.k, Cl.n, Cl.a, Cl.o, Cl.kids, clsA]
    rw [encCls_eq r]
theorem clsA_eq (l : List Cl) : clsA l = dsl 5 encF l := by unfold clsA dsl; rw [encCls_eq]
mutual
/-- how many there are, with what stands in them -/
def Cl.cnt : Cl → Nat
  | .mk _ _ a _ kids => 1 + a.length + cntL kids
def cntL : List Cl → Nat
  | [] => 0
  | c :: r => c.cnt + cntL r
end
mutual
/-- texts that are not too long -/
def Cl.ok : Cl → Prop
  | .mk _ n a o kids => n.length ≤ 2000000 ∧ (∀ i, (a.getD i default).x.length ≤ 2000000) ∧ o.length ≤ 2000000 ∧ okL kids
def okL : List Cl → Prop
  | [] => True
  | c :: r => c.ok ∧ okL r
end
theorem Cl.cnt_eq (c : Cl) : c.cnt = 1 + c.a.length + cntL c.kids := by cases c; rfl
theorem Cl.ok_eq (c : Cl) : c.ok = (c.n.length ≤ 2000000 ∧ (∀ i, (c.a.getD i default).x.length ≤ 2000000) ∧ c.o.length ≤ 2000000 ∧ okL c.kids) := by cases c; rfl
theorem okL_at : ∀ {l : List Cl} {i : Nat}, okL l → (l.getD i default).ok
  | [], i, _ => by
    show Cl.ok (Cl.mk 0 [] [] [] [])
    exact ⟨Nat.zero_le _, fun i => Nat.zero_le _, Nat.zero_le _, trivial⟩
  | c :: r, 0, h => h.1
  | c :: r, i + 1, h => okL_at (l := r) (i := i) h.2
theorem cntL_at : ∀ {l : List Cl} {i : Nat}, i < l.length → (l.getD i default).cnt + cntL (l.take i) ≤ cntL l
  | c :: r, 0, _ => by simp [cntL]
  | c :: r, i + 1, h => by
    have := cntL_at (l := r) (i := i) (by simpa using h)
    simp only [cntL, List.take_succ_cons, List.getD_cons_succ]; omega
theorem cntL_len : ∀ l : List Cl, l.length ≤ cntL l
  | [] => Nat.le_refl _
  | c :: r => by
    have := cntL_len r
    have := c.cnt_eq
    simp only [cntL, List.length_cons]; omega
theorem take_succ' {α : Type} [Inhabited α] : ∀ {l : List α} {i : Nat}, i < l.length → l.take (i + 1) = l.take i ++ [l.getD i default]
  | a :: l, 0, _ => by simp
  | a :: l, i + 1, h => by
    have := take_succ' (l := l) (i := i) (by simpa using h)
    simp [this]
noncomputable def isV (s : Str) : Bool := bd (VarP s)
noncomputable def argV (l : List Ag) : List Str := (l.map Ag.x).filter isV
mutual
noncomputable def Cl.vars : Cl → List Str
  | .mk _ _ a o kids => (argV a ++ (bif isV o then [o] else [])) ++ varsL kids
noncomputable def varsL : List Cl → List Str
  | [] => []
  | c :: r => c.vars ++ varsL r
end
theorem Cl.vars_eq (c : Cl) : c.vars = (argV c.a ++ (bif isV c.o then [c.o] else [])) ++ varsL c.kids := by cases c; rfl
theorem varsL_app : ∀ a b : List Cl, varsL (a ++ b) = varsL a ++ varsL b
  | [], b => rfl
  | c :: a, b => by
    have := varsL_app a b
    simp only [List.cons_append, varsL, this, List.append_assoc]
theorem varsL_succ {l : List Cl} {i : Nat} (h : i < l.length) : varsL (l.take (i + 1)) = varsL (l.take i) ++ (l.getD i default).vars := by
  rw [take_succ' h, varsL_app]; simp [varsL]
theorem argV_succ {l : List Ag} {i : Nat} (h : i < l.length) : argV (l.take (i + 1)) = argV (l.take i) ++ (bif isV (l.getD i default).x then [(l.getD i default).x] else []) := by
  unfold argV
  rw [take_succ' h, List.map_append, List.filter_append]
  rw [show List.filter isV (List.map Ag.x [l.getD i default]) = (bif isV (l.getD i default).x then [(l.getD i default).x] else []) by
    show (match isV (l.getD i default).x with | true => _ | false => _) = _
    cases isV (l.getD i default).x <;> rfl]
theorem argV_len (l : List Ag) : (argV l).length ≤ l.length := by
  unfold argV
  have := List.length_filter_le isV (l.map Ag.x)
  simpa using this
mutual
theorem Cl.vars_len : ∀ c : Cl, c.vars.length ≤ c.cnt
  | .mk k n a o kids => by
    have h1 := argV_len a
    have h2 := varsL_len kids
    simp only [Cl.vars, Cl.cnt, List.length_append]
    cases isV o <;> simp <;> omega
theorem varsL_len : ∀ l : List Cl, (varsL l).length ≤ cntL l
  | [] => Nat.le_refl _
  | c :: r => by
    have h1 := Cl.vars_len c
    have h2 := varsL_len r
    simp only [varsL, cntL, List.length_append]; omega
end
theorem m43 : ∀ (N : Nat) (l : List Cl) (n : Nat) (cs : List AV), cntL l < N → n + cntL l ≤ 100000 → okL l → KM cF 43 [.arr 9 1 n cs] [.own 0 n 1, clsA l] (.own 0 (n + (varsL l).length) 1) [.arr 9 1 (n + (varsL l).length) (cs ++ (varsL l).flatMap encS)] := by
  intro N
  induction N with
  | zero => intro l n cs hN; omega
  | succ N IH =>
  intro l n cs hN hb hok
  have hlen := cntL_len l
  rw [clsA_eq]
  refine KM.of (N := 1) (ab := [.arr 9 1 n cs]) (gv := []) cF_ok eF.g Try.func43 rfl rfl rfl rfl (Nat.le_of_ble_eq_true rfl) rfl rfl rfl rfl rfl rfl fun w F opn gx => ?_
  repeat' first | refine Go.seq ?_ | refine Go.region rfl ?_ | refine Ops.nil ?_ | refine Ops.val eF rfl rfl (by first | exact Want.no rfl | exact Want.tT rfl rfl rfl rfl | exact Want.fF rfl rfl rfl rfl) (by first | exact Hop.assign rfl rfl) ?_ | refine Go.block ?_
  refine Go.loop (fun i : Nat => [(0, .own 0 (n + (varsL (l.take i)).length) 1), (1, dsl 5 encF l), (5, .int .i64 i)]) (fun i => hq 1 [.arr 9 1 (n + (varsL (l.take i)).length) (cs ++ (varsL (l.take i)).flatMap encS)]) (fun i => i ≤ l.length) (fun i => l.length - i) 0 (by omega) ⟨rfl, rfl, rfl, trivial⟩ (by simp [varsL]) (fun i hi ih => ?_)
  have hc := cntL_at (l := l) (i := i)
  have hv := varsL_len (l.take i)
  have hk := okL_at (l := l) (i := i) hok
  rw [Cl.ok_eq] at hk
  rw [Cl.cnt_eq] at hc
  repeat' first | refine Go.seq ?_ | refine Go.region rfl ?_ | refine Ops.nil ?_ | refine Ops.val eF rfl rfl (by first | exact Want.no rfl | exact Want.tT rfl rfl rfl rfl | exact Want.fF rfl rfl rfl rfl) (by first | exact Hop.move rfl rfl | exact Hop.assign rfl rfl | exact Hop.lss rfl rfl rfl | exact Hop.lenD eF rfl rfl rfl rfl rfl rfl rfl) ?_ | refine Go.condPt rfl (fun _ => ?_) (fun _ => ?_) | refine Go.block ?_ | refine Go.skip ?_ | refine Go.exit rfl ?_ | refine Go.retM rfl rfl ?_ ?_ rfl
  case succ.refine_2.refine_1 => have e : i = l.length := by omega
                                 subst e
                                 rw [List.take_length]; rfl
  case succ.refine_2.refine_2 => have e : i = l.length := by omega
                                 subst e
                                 rw [List.take_length]; exact ⟨rfl, trivial⟩
  rename_i hlt
  have hlt : i < l.length := by omega
  have hc := hc hlt
  refine Go.loop (fun j : Nat => [(0, .own 0 (n + (varsL (l.take i)).length + (argV ((l.getD i default).a.take j)).length) 1), (1, dsl 5 encF l), (5, .int .i64 i), (6, .int .i64 j)]) (fun j => hq 1 [.arr 9 1 (n + (varsL (l.take i)).length + (argV ((l.getD i default).a.take j)).length) (cs ++ (varsL (l.take i)).flatMap encS ++ (argV ((l.getD i default).a.take j)).flatMap encS)]) (fun j => j ≤ (l.getD i default).a.length) (fun j => (l.getD i default).a.length - j) 0 (by omega) ⟨rfl, rfl, rfl, rfl, trivial⟩ (by simp [argV]) (fun j hj ihj => ?_)
  have hav : (argV ((l.getD i default).a.take j)).length ≤ j := Nat.le_trans (argV_len _) (by rw [List.length_take]; omega)
  have k1 := k57 ((l.getD i default).a.getD j default).x (hk.2.1 j)
  have k2 := k57 (l.getD i default).o hk.2.2.1
  have hvi := varsL_succ hlt
  rw [Cl.vars_eq] at hvi
  repeat' first | refine Go.seq ?_ | refine Go.region rfl ?_ | refine Ops.nil ?_ | refine Ops.callM (v' := .own 0 _ 1) (ab := [.arr 9 1 _ _]) eF [0] 1 (by first | exact Want.no rfl | exact Want.tT rfl rfl rfl rfl | exact Want.fF rfl rfl rfl rfl) rfl rfl rfl rfl (IH (l.getD i default).kids _ _ (by omega) (by omega) hk.2.2.2) rfl ⟨.inl rfl, .inl rfl, trivial⟩ rfl ⟨⟨rfl, rfl⟩, trivial⟩ ⟨.inl rfl, trivial⟩ rfl rfl rfl rfl rfl rfl rfl ?_ | refine Ops.val eF rfl rfl (by first | exact Want.no rfl | exact Want.tT rfl rfl rfl rfl | exact Want.fF rfl rfl rfl rfl) (by first | exact Hop.move rfl rfl | exact Hop.assign rfl rfl | exact Hop.lss rfl rfl rfl | exact Hop.add rfl rfl rfl (by omega) | exact Hop.faR eF rfl rfl rfl rfl rfl rfl rfl | exact Hop.idx eF rfl rfl rfl rfl rfl rfl rfl (fun _ => rfl) (by omega) | exact Hop.ldR eF rfl rfl rfl rfl rfl | exact Hop.lenD eF rfl rfl rfl rfl rfl rfl rfl) ?_ | refine Ops.call eF rfl rfl (by first | exact Want.no rfl | exact Want.tT rfl rfl rfl rfl | exact Want.fF rfl rfl rfl rfl) rfl rfl rfl rfl (k1) rfl ?_ | refine Ops.call eF rfl rfl (by first | exact Want.no rfl | exact Want.tT rfl rfl rfl rfl | exact Want.fF rfl rfl rfl rfl) rfl rfl rfl rfl (k2) rfl ?_ | refine Ops.data eF rfl rfl (by first | exact Want.no rfl | exact Want.tT rfl rfl rfl rfl | exact Want.fF rfl rfl rfl rfl) rfl (Hop.bslice eF rfl rfl rfl rfl rfl rfl rfl rfl rfl rfl rfl) rfl rfl ?_ | refine Ops.appendE eF rfl rfl (by first | exact Want.no rfl | exact Want.tT rfl rfl rfl rfl | exact Want.fF rfl rfl rfl rfl) rfl rfl rfl rfl rfl rfl rfl rfl rfl rfl rfl rfl rfl rfl rfl rfl (by repeat' first | exact trivial | refine And.intro ?_ ?_ | exact .inr trivial | exact .inr (ind_row rfl rfl) | exact .inr rfl | exact .inl rfl | exact .inr (hindL _ _)) rfl rfl rfl rfl rfl (by first | rfl | exact ones_flat (fun _ => rfl) _) (by omega) ?_ | refine Go.condPt rfl (fun _ => ?_) (fun _ => ?_) | refine Go.block ?_ | refine Go.unblk ?_ | refine Go.skip ?_ | refine Go.exit rfl ?_
  all_goals try simp only [Int.toNat_natCast] at *
  · rename_i q1 q2
    have g := ihj (j + 1) (by omega) (by omega)
    simp only [argV_succ (show j < (l.getD i default).a.length by omega), isV, bd_of q2, cond_true, List.length_append, List.length_cons, List.length_nil, Nat.zero_add, List.flatMap_append, List.flatMap_cons, List.flatMap_nil, List.append_nil, ← Nat.add_assoc, ← List.append_assoc] at g
    exact Go.toQ g rfl eF.g ⟨rfl, rfl, rfl, rfl, trivial⟩ rfl rfl ⟨.inr rfl, trivial⟩ ⟨trivial, trivial⟩ rfl rfl
  · rename_i q1 q2
    have g := ihj (j + 1) (by omega) (by omega)
    simp only [argV_succ (show j < (l.getD i default).a.length by omega), isV, bd_no q2, cond_false, List.append_nil] at g
    exact Go.toQ g rfl eF.g ⟨rfl, rfl, rfl, rfl, trivial⟩ rfl rfl ⟨.inr rfl, trivial⟩ ⟨trivial, trivial⟩ rfl rfl
  · rename_i q1 q2
    have ej : (l.getD i default).a.take j = (l.getD i default).a := by rw [show j = (l.getD i default).a.length by omega, List.take_length]
    have g := ih (i + 1) (by omega) (by omega)
    simp only [hvi, isV, bd_of q2, cond_true, List.length_append, List.length_cons, List.length_nil, Nat.zero_add, List.flatMap_append, List.flatMap_cons, List.flatMap_nil, List.append_nil, ← Nat.add_assoc, ← List.append_assoc] at g
    simp only [ej]
    exact Go.toQ g rfl eF.g ⟨rfl, rfl, rfl, trivial⟩ rfl rfl ⟨.inr rfl, trivial⟩ ⟨trivial, trivial⟩ rfl rfl
  · rename_i q1 q2
    have ej : (l.getD i default).a.take j = (l.getD i default).a := by rw [show j = (l.getD i default).a.length by omega, List.take_length]
    have g := ih (i + 1) (by omega) (by omega)
    simp only [hvi, isV, bd_no q2, cond_false, List.length_append, List.flatMap_append, List.append_nil, ← Nat.add_assoc, ← List.append_assoc] at g
    simp only [ej]
    exact Go.toQ g rfl eF.g ⟨rfl, rfl, rfl, trivial⟩ rfl rfl ⟨.inr rfl, trivial⟩ ⟨trivial, trivial⟩ rfl rfl
/-- the variables in clauses, in order, each once -/
noncomputable def VarsP (l : List Cl) : List Str := putN (varsL l) (varsL l).length
theorem m43' (l : List Cl) (hb : cntL l ≤ 100000) (hok : okL l) : KM cF 43 [.arr 9 1 0 []] [.own 0 0 1, clsA l] (.own 0 (varsL l).length 1) [.arr 9 1 (varsL l).length ((varsL l).flatMap encS)] := by
  have := m43 (cntL l + 1) l 0 [] (by omega) (by omega) hok
  rwa [Nat.zero_add] at this
theorem k18 (l : List Cl) (hl : cntL l ≤ 10000) (hok : okL l) : KOk cF 18 [clsA l] (strsA (VarsP l)) := by
  have h := varsL_len l
  have k1 := k42 (varsL l) (by omega)
  refine KOk.of cF_ok eF.g Try.func18 rfl (Nat.le_of_ble_eq_true rfl) fun w F => ?_
  repeat' first | refine Go.seq ?_ | refine Go.region rfl ?_ | refine Ops.nil ?_ | refine Ops.change (Chg.tokNew 0 9 1 rfl) (Ops.callM (v' := .own 0 _ 1) (ab := [.arr 9 1 _ _]) eF [0] 1 (by first | exact Want.no rfl | exact Want.tT rfl rfl rfl rfl | exact Want.fF rfl rfl rfl rfl) rfl rfl rfl rfl (m43' l (by omega) hok) rfl ⟨.inr ⟨rfl, _, _, _, rfl, rfl⟩, .inl rfl, trivial⟩ rfl ⟨⟨rfl, rfl⟩, trivial⟩ ⟨.inl rfl, trivial⟩ rfl rfl rfl rfl rfl rfl rfl ?_) | refine Ops.change (Chg.frz 4 rfl rfl ⟨.inl rfl, trivial⟩ rfl rfl (fun q => by cases q)) ?_ | refine Ops.val eF rfl rfl (by first | exact Want.no rfl | exact Want.tT rfl rfl rfl rfl | exact Want.fF rfl rfl rfl rfl) (by first | exact Hop.move rfl rfl | exact Hop.assign rfl rfl) ?_ | refine Ops.call eF rfl rfl (by first | exact Want.no rfl | exact Want.tT rfl rfl rfl rfl | exact Want.fF rfl rfl rfl rfl) rfl rfl rfl rfl (k1) rfl ?_ | refine Go.retF rfl ?_ rfl
  all_goals rfl
end Go.Px.Fx
end
/- PxVe -/
section
set_option linter.unusedVariables false
set_option linter.unusedSimpArgs false
namespace Go.Px

theorem leave_cons (h : Heap) (d : Nat) (m : List Nat) : leave h (d :: m) = (match h.get d with
      | .dfr b => (match b with | true => leave (h.put d (.dfr false)) m | false => none)
      | _ => none) := rfl
theorem leave_all : ∀ {m : List Nat} {h : Heap}, (∀ d ∈ m, h.get d = .dfr true) → m.Nodup → ∃ h', leave h m = some h' ∧ ∀ i, i ∉ m → h'.get i = h.get i
  | [], h, _, _ => ⟨h, rfl, fun _ _ => rfl⟩
  | d :: m, h, hd, hn => by
    have h1 := hd d List.mem_cons_self
    obtain ⟨hn1, hn2⟩ := List.nodup_cons.1 hn
    obtain ⟨h', q1, q2⟩ := leave_all (m := m) (h := h.put d (.dfr false)) (fun x hx => by
      rw [Heap.get_put, if_neg (fun e => hn1 (by rw [← e]; exact hx))]; exact hd x (List.mem_cons_of_mem _ hx)) hn2
    refine ⟨h', ?_, fun i hi => ?_⟩
    · rw [leave_cons, h1]; exact q1
    · rw [q2 i (fun q => hi (List.mem_cons_of_mem _ q)), Heap.get_put, if_neg (fun e => hi (by rw [e]; exact List.mem_cons_self))]

/-- a block of what was put off that is told of no more -/
structure Hid (X : Cx) (ρ : Map) (S : Nat → Prop) (n0 : Nat) (w : World) (B : Nat) : Prop where
  lt : B < w.heap.size
  at_ : w.heap[B]? = some (.deferred (some []))
  im : ∀ i N, ρ i ≠ some (B, N)
  F : ρ.F B = []
  sh : ¬ X.shut B
  S : ¬ S B
  n0 : n0 ≤ B
/-- it is told of again -/
theorem PI.addDfr {X : Cx} {ρ : Map} {h : Heap} {w : World} (p : PI X ρ h w) {S : Nat → Prop} {Fo : Nat → List Value} {n0 : Nat} (g : GhW X ρ h w S Fo) (hn0 : ∀ G, X.g = some G → G.n0 ≤ n0) (h1 : X.g = none ∨ 2 ≤ h.nxt) {B : Nat} (hB : Hid X ρ S n0 w B) :
    PI X ⟨fun i => if i = h.nxt then some (B, 0) else ρ i, ρ.F, ρ.V⟩ (h.new (.dfr true)) w ∧ GhW X ⟨fun i => if i = h.nxt then some (B, 0) else ρ i, ρ.F, ρ.V⟩ (h.new (.dfr true)) w S Fo := by
  let ρ' : Map := ⟨fun i => if i = h.nxt then some (B, 0) else ρ i, ρ.F, ρ.V⟩
  have m1 : ρ' h.nxt = some (B, 0) := if_pos rfl
  have m2 : ∀ i, i ≠ h.nxt → ρ' i = ρ i := fun i q => if_neg q
  have hs : Sub ρ ρ' := ⟨fun i q e => by rw [m2 i (fun k => by subst k; rw [p.fr.1 _ (Nat.le_refl _)] at e; cases e)]; exact e, fun _ _ _ e => e, fun _ _ _ e => e⟩
  have hg : ∀ j, j ≠ h.nxt → (h.new (.dfr true)).get j = h.get j := fun j q => by rw [Heap.get_new, if_neg q]
  have hn : (h.new (.dfr true)).get h.nxt = .dfr true := by rw [Heap.get_new, if_pos rfl]
  have ho : ∀ j, j ≠ h.nxt → ((h.new (.dfr true)).ok j ↔ h.ok j) := fun j q => Heap.ok_same (hg j q) (fun _ _ _ _ => rfl)
  have hc : ∀ i C N, ρ' i = some (C, N) → (i = h.nxt ∧ C = B) ∨ (i ≠ h.nxt ∧ ρ i = some (C, N)) := fun i C N e => by
    by_cases q : i = h.nxt
    · subst q; rw [m1] at e; cases e; exact .inl ⟨rfl, rfl⟩
    · rw [m2 i q] at e; exact .inr ⟨q, e⟩
  have gw : GhW X ρ' (h.new (.dfr true)) w S Fo := fun G hG t z n l e => by
    have hnx : 2 ≤ h.nxt := h1.resolve_left (fun q => by rw [q] at hG; cases hG)
    rw [hg 0 (by omega)] at e
    obtain ⟨s1, s2, s3, s4, s5, s6, ⟨N1, s7⟩, s8⟩ := g G hG t z n l e
    refine ⟨s1, s2, fun i C N e o => ?_, s4, s5, s6, ⟨N1, by rw [m2 1 (by omega)]; exact s7⟩, s8⟩
    rcases hc i C N e with ⟨_, rfl⟩ | ⟨q, e⟩
    · exact ⟨hB.S, Nat.le_trans (hn0 G hG) hB.n0⟩
    · exact s3 i C N e ((ho i q).1 o)
  refine ⟨⟨⟨fun i C N e => ?_, fun i C N e q => ?_, fun i j C N M hij e1 e2 k1 k2 => ?_, fun i r q => ?_, p.hr.fz, fun i C N e q => ?_, fun i t' z' n l q => ?_⟩, ⟨fun i hi => ?_, fun i r q e1 e2 => ?_, fun i r q t e1 e2 e3 => ?_, fun q hq => p.wf.tipr q (Nat.le_of_succ_le hq)⟩, ⟨fun i hi => ?_, fun i r q => ?_⟩, fun i hi n => p.vf i (Nat.le_of_succ_le hi) n, fun i t' z' n l q m' hm => ?_, p.ext, fun i C N e => ?_, p.sub, p.old, p.keep.mono hs, gw.gh⟩, gw⟩
  · rcases hc i C N e with ⟨_, rfl⟩ | ⟨q, e⟩
    · exact hB.lt
    · exact p.hr.lt i C N e
  · rcases hc i C N e with ⟨rfl, rfl⟩ | ⟨hi, e⟩
    · rw [hn]; exact hB.at_
    · rw [hg i hi]; exact (p.hr.ok i C N e ((ho i hi).1 q)).mono hs
  · rcases hc i C N e1 with ⟨rfl, rfl⟩ | ⟨hi, e1⟩
    · rcases hc j C M e2 with ⟨rfl, _⟩ | ⟨hj, e2⟩
      · exact absurd rfl hij
      · exact absurd e2 (hB.im j M)
    · rcases hc j C M e2 with ⟨_, hCB⟩ | ⟨hj, e2⟩
      · rw [hCB] at e1; exact absurd e1 (hB.im i N)
      · obtain ⟨r, s, q, a, b, c⟩ := p.hr.inj i j C N M hij e1 e2 ((ho i hi).1 k1) ((ho j hj).1 k2)
        exact ⟨r, s, q, by rw [hg i hi]; exact a, by rw [hg j hj]; exact b, c⟩
  · by_cases hi : i = h.nxt
    · subst hi; rw [hn] at q; cases q
    · rw [hg i hi] at q
      obtain ⟨N, hN⟩ := p.hr.gl i r q
      exact ⟨N, by rw [m2 i hi]; exact hN⟩
  · rcases hc i C N e with ⟨_, rfl⟩ | ⟨hi, e⟩
    · exact .inl hB.F
    · rw [hg i hi]; exact p.hr.sep i C N e ((ho i hi).1 q)
  · by_cases hi : i = h.nxt
    · subst hi; rw [hn] at q; cases q
    · rw [hg i hi] at q; exact (p.hr.av i t' z' n l q).mono hs
  · have hi' : h.nxt + 1 ≤ i := hi
    rw [hg i (by omega)]; exact p.wf.fresh i (by omega)
  · by_cases hi : i = h.nxt
    · subst hi; rw [hn] at e1; cases e1
    · rw [hg i hi] at e1; exact Nat.lt_succ_of_lt (p.wf.root i r q e1 e2)
  · by_cases hi : i = h.nxt
    · subst hi; rw [hn] at e1; cases e1
    · rw [hg i hi] at e1
      obtain ⟨s, a, c⟩ := p.wf.tip i r q t e1 e2 e3
      exact ⟨s, by rw [hg t (fun k => by subst k; rw [p.wf.fresh _ (Nat.le_refl _)] at a; cases a)]; exact a, c⟩
  · have hi' : h.nxt + 1 ≤ i := hi
    rw [m2 i (by omega)]; exact p.fr.1 i (by omega)
  · have := p.fr.2 i r q
    rw [hg i (fun k => by subst k; rw [p.wf.fresh _ (Nat.le_refl _)] at this; cases this)]; exact this
  · by_cases hi : i = h.nxt
    · subst hi; rw [hn] at q; cases q
    · rw [hg i hi] at q; exact p.vu i t' z' n l q m' hm
  · rcases hc i C N e with ⟨_, rfl⟩ | ⟨q, e⟩
    · exact hB.sh
    · exact p.mine i C N e
/-- all of it -/
theorem PI.unhide {X : Cx} {S : Nat → Prop} {Fo : Nat → List Value} {n0 : Nat} {w : World} (hn0 : ∀ G, X.g = some G → G.n0 ≤ n0) : ∀ (Hs : List Nat) {ρ : Map} {h : Heap}, PI X ρ h w → GhW X ρ h w S Fo → (X.g = none ∨ 2 ≤ h.nxt) → (∀ B ∈ Hs, Hid X ρ S n0 w B) → Hs.Nodup →
    ∃ ρ' h' ids, PI X ρ' h' w ∧ GhW X ρ' h' w S Fo ∧ MR ρ' ids (Hs.map colD) ∧ Sub ρ ρ' ∧ (∀ i, i < h.nxt → h'.get i = h.get i) ∧ (∀ d ∈ ids, h.nxt ≤ d ∧ h'.get d = .dfr true) ∧ ids.Nodup ∧ h.nxt ≤ h'.nxt ∧ ∀ C, (∀ i N, ρ i ≠ some (C, N)) → C ∉ Hs → ∀ i N, ρ' i ≠ some (C, N)
  | [], ρ, h, p, g, _, _, _ => ⟨ρ, h, [], p, g, rfl, Sub.refl _, fun _ _ => rfl, fun _ q => (by cases q), List.nodup_nil, Nat.le_refl _, fun C hC _ => hC⟩
  | B :: Hs, ρ, h, p, g, h1, hH, hnd => by
    obtain ⟨nd1, nd2⟩ := List.nodup_cons.1 hnd
    obtain ⟨ρ1, k1, ids, p1, g1, m1, s1, q1, q2, q3, q4, q5⟩ := PI.unhide hn0 Hs p g h1 (fun C hC => hH C (List.mem_cons_of_mem _ hC)) nd2
    have hB := hH B List.mem_cons_self
    have hF : ρ1.F B = [] := by
      exact Classical.byContradiction fun q => by
        have := p1.hr.F_lt q
        obtain ⟨x, hx⟩ := List.exists_mem_of_ne_nil _ q
        obtain ⟨i, hi⟩ := List.getElem?_of_mem hx
        have := p1.hr.fz B i x hi
        unfold World.cell? at this
        rw [hB.at_] at this
        simp at this
    have hB1 : Hid X ρ1 S n0 w B := ⟨hB.lt, hB.at_, q5 B hB.im nd1, hF, hB.sh, hB.S, hB.n0⟩
    obtain ⟨p2, g2⟩ := p1.addDfr g1 hn0 (h1.imp id fun q => Nat.le_trans q q4) hB1
    have hs : Sub ρ1 ⟨fun i => if i = k1.nxt then some (B, 0) else ρ1 i, ρ1.F, ρ1.V⟩ := ⟨fun i q e => by
      show (if i = k1.nxt then some (B, 0) else ρ1 i) = some q
      rw [if_neg (fun k => by subst k; rw [p1.fr.1 _ (Nat.le_refl _)] at e; cases e)]; exact e, fun _ _ _ e => e, fun _ _ _ e => e⟩
    refine ⟨_, _, k1.nxt :: ids, p2, g2, ?_, s1.trans hs, fun i hi => ?_, fun d hd => ?_, ?_, ?_, fun C hC hCn i N e => ?_⟩
    · exact ⟨B, 0, _, if_pos rfl, m1.mono hs, rfl⟩
    · rw [Heap.get_new, if_neg (by omega)]; exact q1 i hi
    · rcases List.mem_cons.1 hd with rfl | hd
      · exact ⟨q4, by rw [Heap.get_new, if_pos rfl]⟩
      · obtain ⟨a, b⟩ := q2 d hd
        refine ⟨a, ?_⟩
        rw [Heap.get_new, if_neg (fun k => by subst k; rw [p1.wf.fresh _ (Nat.le_refl _)] at b; cases b)]; exact b
    · refine List.nodup_cons.2 ⟨fun hd => ?_, q3⟩
      obtain ⟨a, b⟩ := q2 _ hd
      rw [p1.wf.fresh _ (Nat.le_refl _)] at b; cases b
    · exact Nat.le_succ_of_le q4
    · have e' : (if i = k1.nxt then some (B, 0) else ρ1 i) = some (C, N) := e
      by_cases q : i = k1.nxt
      · rw [if_pos q] at e'; cases e'; exact hCn List.mem_cons_self
      · rw [if_neg q] at e'; exact q5 C hC (fun q => hCn (List.mem_cons_of_mem _ q)) i N e'
/-! ## the loop -/
def LoopW (P : Program) (ro : Option Nat) (c : Code) (Q' : Exit → Act → World → Prop) (a : Act) (w : World) : Prop :=
  ∀ (b : Frame) (kk : List Item) (cs : List Frame), b.roundOf = (wideR ro).round → (wideR ro).fn b.fn → (wideR ro).room (cs.length + 1 + 0) → ∃ e a'' w'', Q' e a'' w'' ∧ ArrivesIn (Machine.fenced P (wideR ro)) P (lone (b.atR a (.code c :: .inLoop c :: kk)) cs w) b kk cs e a'' w''
theorem LoopW.next {P : Program} {ro : Option Nat} {c : Code} {Q' : Exit → Act → World → Prop} {a : Act} {w : World} (key : c.wpIn (wideR ro) 0 P (fun e a' w' => match e with
      | .normal => LoopW P ro c Q' a' w'
      | e => (∃ x, e = exitOf x ∧ x ≠ .normal) ∧ Q' e a' w') a w) : LoopW P ro c Q' a w := by
  intro b kk cs hro hb hroom
  obtain ⟨e, a₁, w₁, hq, harr⟩ := key b (.inLoop c :: kk) cs hro hb hroom
  cases e with
  | normal =>
    obtain ⟨e₂, a₂, w₂, hq₂, harr₂⟩ := hq b kk cs hro hb hroom
    exact ⟨e₂, a₂, w₂, hq₂, .of_steps (StepsIn.trans harr (.one (fenced_calm hb hroom rfl) stepR_inLoop)) harr₂⟩
  | exit id => exact ⟨_, a₁, w₁, hq.2, .pass (x := .inLoop c) rfl (fun _ _ => .inl (by simp)) harr⟩
  | ret => exact ⟨_, a₁, w₁, hq.2, .pass (x := .inLoop c) rfl (fun _ _ => .inl (by simp)) harr⟩
  | goto l => obtain ⟨x, hx, _⟩ := hq.1; cases x <;> cases hx
  | panic ch => obtain ⟨x, hx, _⟩ := hq.1; cases x <;> cases hx
  | outgrown => obtain ⟨x, hx, _⟩ := hq.1; cases x <;> cases hx
theorem MR.blocks {ρ : Map} : ∀ {m : List Nat} {D : List Deferred}, MR ρ m D → ∃ Bs : List Nat, D = Bs.map colD ∧ Bs.length = m.length ∧ ∀ (j d : Nat), m[j]? = some d → ∃ B N, Bs[j]? = some B ∧ ρ d = some (B, N)
  | [], D, h => ⟨[], by simpa [MR] using h, rfl, fun j d e => by simp at e⟩
  | d :: m, D, h => by
    obtain ⟨B, N, r, a, b, c⟩ := h
    obtain ⟨Bs, e1, e2, e3⟩ := MR.blocks b
    refine ⟨B :: Bs, by rw [c, e1]; rfl, by simp [e2], fun j d' e => ?_⟩
    cases j with
    | zero => simp at e; subst e; exact ⟨B, N, rfl, a⟩
    | succ j => exact e3 j d' (by simpa using e)
structure B2 where
  w0 : World
  F0 : Nat → List Value
  opn : Nat → Prop
  hid : List Nat
def XR (X : Cx) (b : B2) : Cx := ⟨X.c, b.w0, b.F0, b.opn, X.g, X.ro, b.hid, X.gv, X.gx⟩
def liveFrom : List AB → Nat → Bool
  | [], _ => true
  | .none :: r, i => (match Nat.beq i 1 with | true => liveFrom r (i + 1) | false => false)
  | _ :: r, i => liveFrom r (i + 1)
theorem live_at : ∀ {bs : List AB} {i j : Nat} {b : AB}, liveFrom bs i = true → bs[j]? = some b → b ≠ .none ∨ i + j = 1
  | [], i, j, b, _, e => by simp at e
  | x :: r, i, j, b, h, e => by
    have step : liveFrom r (i + 1) = true ∧ (x = .none → i = 1) := by
      cases x <;> simp only [liveFrom] at h <;> first | exact ⟨h, fun q => by cases q⟩ | skip
      split at h
      · rename_i q; exact ⟨h, fun _ => beqT q⟩
      · cases h
    cases j with
    | zero =>
      simp at e; subst e
      by_cases q : x = .none
      · exact .inr (by rw [step.2 q])
      · exact .inl q
    | succ j =>
      rcases live_at (bs := r) (j := j) step.1 (by simpa using e) with q | q
      · exact .inl q
      · exact .inr (by omega)
/-- so it ends -/
def EndB (h : Heap) (m : List Nat) (N : Nat) : Prop := (∃ t z n l, h.get 0 = .arr t z n l ∧ (z = N ∨ z = N + 1)) ∧ (∀ d ∈ m, h.get d = .dfr true) ∧ m.Nodup ∧ Nat.ble 2 h.nxt = true
/-- behind a round of the loop -/
def LB (St : Nat → List (Nat × AV)) (Hb : Nat → List AB) (id T i N NN : Nat) : Post := fun x s =>
  match x with
  | .normal => i < T ∧ Has s.e (St (i + 1)) ∧ getsP s.h (Hb (i + 1)) 0 ∧ Nat.ble NN s.h.nxt = true ∧ (∀ d ∈ s.m, NN ≤ d ∧ s.h.get d = .dfr true) ∧ s.m.Nodup
  | .exit j => j = id ∧ EndB s.h s.m N
  | .ret => EndB s.h s.m N
theorem Go.nextB {X : Cx} {b : B2} {sz : Nat} {L : List (Nat × AV)} {h : Heap} {m : List Nat} {St : Nat → List (Nat × AV)} {Hb : Nat → List AB} {id T i N NN : Nat} (hT : i < T) (hs : SubL L (St (i + 1))) (hb : getsP h (Hb (i + 1)) 0) (hn : Nat.ble NN h.nxt = true) (hm : ∀ d ∈ m, NN ≤ d ∧ h.get d = .dfr true) (hd : m.Nodup) : Go (XR X b) sz none [] L h m (LB St Hb id T i N NN) :=
  Go.nil fun e he => ⟨hT, he.sub hs, hb, hn, hm, hd⟩
theorem Go.endB {X : Cx} {b : B2} {sz : Nat} {k : List It} {L : List (Nat × AV)} {h : Heap} {m : List Nat} {St : Nat → List (Nat × AV)} {Hb : Nat → List AB} {id T i N NN : Nat} (hx : xit id k = none) (hE : EndB h m N) : Go (XR X b) sz none (.code (.exit id) :: k) L h m (LB St Hb id T i N NN) := ⟨fun e he => Tri.exit (by
  have key : ∀ {k' : List It}, xit id k' = none → RunK (XR X b) sz none k' (LB St Hb id T i N NN) (.exit id) ⟨e, h, m⟩ := by
    intro k'
    induction k' with
    | nil => intro _; exact ⟨rfl, hE⟩
    | cons x k' ih =>
      intro q
      cases x with
      | code c => exact ih q
      | lp c => exact ih q
      | blk i =>
        unfold xit at q
        rw [show RunK (XR X b) sz none (.blk i :: k') (LB St Hb id T _ N NN) (.exit id) ⟨e, h, m⟩ = (match Nat.beq id i with | true => RunK (XR X b) sz none k' (LB St Hb id T _ N NN) .normal ⟨e, h, m⟩ | false => RunK (XR X b) sz none k' (LB St Hb id T _ N NN) (.exit id) ⟨e, h, m⟩) from rfl]
        cases hi : Nat.beq id i with
        | true => rw [hi] at q; cases q
        | false => rw [hi] at q; exact ih q
  exact key hx)⟩
theorem Go.retB {X : Cx} {b : B2} {sz : Nat} {k : List It} {L : List (Nat × AV)} {h : Heap} {m : List Nat} {St : Nat → List (Nat × AV)} {Hb : Nat → List AB} {id T i N NN : Nat} (hE : EndB h m N) : Go (XR X b) sz none (.code .ret :: k) L h m (LB St Hb id T i N NN) := Go.ret fun e he => hE
theorem ab_ok {X : Cx} {ρ : Map} {h : Heap} {w : World} {n : Nat} {i : Nat} {b : AB} (hb : h.get i = b) (hn : b ≠ .none) (hl : ABLow n b) : h.ok i := by
  unfold Heap.ok
  rw [hb]
  cases b with
  | none => exact absurd rfl hn
  | row r => simp only []; rw [Heap.row_of hb, hl.1]; rfl
  | _ => trivial
/-- A LOOP OF AN ITERATOR, in which it ranges over others; it ends with the function. -/
theorem Go.loopB {X : Cx} {G : Gho X.c.P} {sz : Nat} {L : List (Nat × AV)} {h : Heap} {c : Code} {cc : Ctx} {id TT N NN : Nat} (hX : X.g = some G) (hg : ∀ i r, X.c.g0.get i ≠ .gl r) (St : Nat → List (Nat × AV)) (Hb : Nat → List AB) (hN : ∀ i, (Hb i).length = NN) (hlow : ∀ i, lowsP NN (Hb i)) (hlive : ∀ i, liveFrom (Hb i) 0 = true) (hSl : ∀ i, lowL NN (St i) = true) (hgv : lowsB NN X.gv = true) (h2 : Nat.ble 2 NN = true)
    (hmk : ∀ i, ∃ t z n l, (Hb i)[0]? = some (.arr t z n l)) (hS : SubL L (St 0)) (hH : h = hq NN (Hb 0)) (body : ∀ i, i ≤ TT → ∀ b, Go (XR X b) sz none [.code c] (St i) (hq NN (Hb i)) [] (LB St Hb id TT i N NN)) (hid0 : X.hid = [] := by rfl) :
    Go X sz none [.code (.loop c), .blk id] L h [] (FinY cc [] N) := ⟨fun e0 he0 => by
  subst hH
  intro ro ρ w a Q' h1 p h3 h4 h5
  have h2' := bleT h2
  have hq0 : ∀ i, ∃ t z n l, (hq NN (Hb i)).get 0 = .arr t z n l := fun i => by
    obtain ⟨t, z, n, l, q⟩ := hmk i
    exact ⟨t, z, n, l, by rw [hq_get, q]; rfl⟩
  have step : ∀ i, i ≤ TT → (i < TT → ∀ (ρ : Map) (w : World) (a : Act) (e : T AV) (Hs : List Nat) (S : Nat → Prop) (Fo : Nat → List Value), PI X ρ (hq NN (Hb (i + 1))) w → GhW X ρ (hq NN (Hb (i + 1))) w S Fo → ER ρ e a.tmps sz → Has e (St (i + 1)) → a.defers = Hs.map colD → (∀ B ∈ Hs, Hid X ρ S G.n0 w B) → Hs.Nodup → LoopW X.c.P ro c Q' a w) →
      ∀ (ρ : Map) (w : World) (a : Act) (e : T AV) (Hs : List Nat) (S : Nat → Prop) (Fo : Nat → List Value), PI X ρ (hq NN (Hb i)) w → GhW X ρ (hq NN (Hb i)) w S Fo → ER ρ e a.tmps sz → Has e (St i) → a.defers = Hs.map colD → (∀ B ∈ Hs, Hid X ρ S G.n0 w B) → Hs.Nodup → LoopW X.c.P ro c Q' a w := by
    intro i hi next ρ w a e Hs S Fo p g er he hD hH hnd
    obtain ⟨t0, z0, n0, l0, hm0⟩ := hq0 i
    have gS := (g G hX t0 z0 n0 l0 hm0)
    have hSsh : ∀ b, S b → ¬ X.shut b := gS.2.2.2.2.2.2.2
    have pb := p.base g X.ro Hs X.gx X.gv p.keep (F := ρ.F) (fun _ _ _ e => e) p.hr.fz (fun _ _ _ _ => rfl) (fun _ _ => rfl) (fun _ _ _ _ => rfl)
    have hA : Tri (XR X ⟨w, ρ.F, fun b => (∃ i N, ρ i = some (b, N)) ∨ S b, Hs⟩) sz none c ⟨e, hq NN (Hb i), []⟩ (LB St Hb id TT i N NN) := (body i hi _).run e he
    refine LoopW.next (hA ro ρ w a _ h1 pb er ⟨[], rfl, hD⟩ fun x s' a' w' ρ' q g1 g2 g3 g4 => ?_)
    obtain ⟨c1, c2, c3, c4, S1, Fo1, c5, c6, c7, c8⟩ := p.leg hSsh (fun _ _ _ e => e) (fun _ _ => rfl) g2
    obtain ⟨D1, d1, d2⟩ := g4
    have d2 : a'.defers = D1 ++ Hs.map colD := d2
    have hH' : ∀ B ∈ Hs, Hid X ρ' S1 G.n0 w' B := fun B hB => by
      obtain ⟨x1, x2, x3, x4, x5, x6, x7⟩ := hH B hB
      have hn : ¬ ((∃ i N, ρ i = some (B, N)) ∨ S B) := fun q => q.elim (fun ⟨i, N, e⟩ => x3 i N e) x6
      obtain ⟨y1, y2, y3⟩ := c3 B x1 hn
      exact ⟨Nat.lt_of_lt_of_le x1 c2.size, y1.trans x2, y3, y2.trans x4, x5, c8 B x1 hn, x7⟩
    -- an end
    have fin : ∀ (x : Ex), x ≠ .normal → EndB s'.h s'.m N → (∀ s2, FinY cc [] N .normal s2 → RunK X sz none [.blk id] (FinY cc [] N) x s2) → (∃ y, exitOf x = exitOf y ∧ y ≠ .normal) ∧ Q' (exitOf x) a' w' := fun x hx ⟨⟨t, z, n, l, e1, e2⟩, e3, e4, e5⟩ hrun => by
      refine ⟨⟨x, rfl, hx⟩, ?_⟩
      obtain ⟨ρ2, h2', ids, k1, k2, k3, k4, k5, k6, k7, k8, _⟩ := PI.unhide (n0 := G.n0) (fun G' hG' => by rw [hX] at hG'; cases hG'; exact Nat.le_refl _) Hs c1 c5 (.inr (bleT e5)) hH' hnd
      have hlt : ∀ d ∈ s'.m, d < s'.h.nxt := fun d hd => by
        rcases Nat.lt_or_ge d s'.h.nxt with q | q
        · exact q
        · have := e3 d hd
          rw [c1.wf.fresh d q] at this; cases this
      obtain ⟨h4', j1, j2⟩ := leave_all (m := s'.m ++ ids) (h := h2') (fun d hd => by
        rcases List.mem_append.1 hd with hd | hd
        · rw [k5 d (hlt d hd)]; exact e3 d hd
        · exact (k6 d hd).2) (List.nodup_append.2 ⟨e4, k7, fun d hd d' hd' e => by
          have := hlt d hd
          have := (k6 d' hd').1
          omega⟩)
      have h0 : h4'.get 0 = .arr t z n l := by
        have h1' := bleT e5
        rw [j2 0 (fun hd => by
          rcases List.mem_append.1 hd with hd | hd
          · have := e3 0 hd; rw [e1] at this; cases this
          · have := (k6 0 hd).1; omega), k5 0 (by omega)]
        exact e1
      refine h5 x ⟨s'.e, h2', s'.m ++ ids⟩ a' w' ρ2 (hrun _ ⟨.inl rfl, h4', [], j1, rfl, t, z, n, l, h0, e2⟩) g1 k1 (g3.mono k4) ⟨D1 ++ Hs.map colD, (d1.mono k4).append k3, ?_⟩
      rw [hid0, d2]; simp
    cases x with
    | exit j =>
      obtain ⟨rfl, hE⟩ := (show j = id ∧ EndB s'.h s'.m N from q)
      refine fin (.exit j) (by simp) hE fun s2 hs2 => ?_
      show (match Nat.beq j j with | true => _ | false => _)
      rw [Nat.beq_refl]; exact hs2
    | ret => 
      refine fin .ret (by simp) (show EndB s'.h s'.m N from q) fun s2 ⟨_, hs2⟩ => ?_
      exact ⟨.inr rfl, hs2⟩
    | normal =>
      obtain ⟨q1, q2, q3, q4, q5, q6⟩ := (show i < TT ∧ Has s'.e (St (i + 1)) ∧ getsP s'.h (Hb (i + 1)) 0 ∧ Nat.ble NN s'.h.nxt = true ∧ (∀ d ∈ s'.m, NN ≤ d ∧ s'.h.get d = .dfr true) ∧ s'.m.Nodup from q)
      have hl := hN (i + 1)
      have p9 := c1.cutP (Hb (i + 1)) hg (by rw [hl]; exact q4) q3 (by rw [hl]; exact hlow _) (by rw [hl]; exact hgv) (.inr (by rw [hl]; exact h2))
      rw [hl] at p9
      have p9 : PI X (cutN ρ' NN) (hq NN (Hb (i + 1))) w' := by
        have e : hp (Hb (i + 1)) = hq NN (Hb (i + 1)) := by unfold hp hq; rw [hl]
        rw [← e]; exact p9
      obtain ⟨t, z, n, l, hz⟩ := hmk (i + 1)
      have hg0 : s'.h.get 0 = .arr t z n l := (getsP_at q3 0 _ hz).resolve_left (fun e => by cases e)
      have gw : GhW X (cutN ρ' NN) (hq NN (Hb (i + 1))) w' S1 Fo1 := fun G' hG' t' z' n' l' e' => by
        rw [hq_get, hz] at e'
        cases e'
        obtain ⟨s1, s2, s3, s4, s5, s6, ⟨N1, s7⟩, s8⟩ := c5 G' hG' _ _ _ _ hg0
        refine ⟨s1, s2, fun j B N e o => ?_, s4, s5, s6, ⟨N1, by rw [cutN_m (by omega)]; exact s7⟩, s8⟩
        by_cases hj : j < NN
        · rw [cutN_m hj] at e
          refine s3 j B N e ?_
          have hne : (hq NN (Hb (i + 1))).get j ≠ .none := fun q => by unfold Heap.ok at o; rw [q] at o; exact o
          obtain ⟨b, hb⟩ : ∃ b, (Hb (i + 1))[j]? = some b := ⟨_, List.getElem?_eq_getElem (by omega)⟩
          rw [hq_get, hb] at hne
          have hgb := (getsP_at q3 j b hb).resolve_left hne
          rw [Nat.zero_add] at hgb
          exact ab_ok (X := X) (ρ := ρ') (w := w') hgb hne (lowsP_at (hlow _) j b hb)
        · rw [cutN_n hj] at e; cases e
      obtain ⟨s1, s2, s3, s4, s5, s6, ⟨N1, s7⟩, s8⟩ := c5 G hX _ _ _ _ hg0
      obtain ⟨Bs, f1, f2, f3⟩ := d1.blocks
      have hdok : ∀ d ∈ s'.m, s'.h.ok d := fun d hd => by unfold Heap.ok; rw [(q5 d hd).2]; trivial
      have hBs : ∀ B ∈ Bs, ∃ d ∈ s'.m, ∃ N, ρ' d = some (B, N) := fun B hB => by
        obtain ⟨j, hj⟩ := List.getElem?_of_mem hB
        have hjl : j < s'.m.length := by rw [← f2]; exact (List.getElem?_eq_some_iff.1 hj).1
        obtain ⟨B', N, h1', h2'⟩ := f3 j _ (List.getElem?_eq_getElem hjl)
        rw [hj] at h1'; cases h1'
        exact ⟨_, List.getElem_mem hjl, N, h2'⟩
      have hB' : ∀ B ∈ Bs, Hid X (cutN ρ' NN) S1 G.n0 w' B := fun B hB => by
        obtain ⟨d, hd, M, hρ⟩ := hBs B hB
        have hr := c1.hr.ok d B M hρ (hdok d hd)
        rw [(q5 d hd).2] at hr
        have hdS := s3 d B M hρ (hdok d hd)
        refine ⟨c1.hr.lt d B M hρ, hr, fun j K e => ?_, c1.hr.F_row hρ (hdok d hd) (fun r => by rw [(q5 d hd).2]; exact fun e => by cases e), c1.mine d B M hρ, hdS.1, hdS.2⟩
        by_cases hj : j < NN
        · rw [cutN_m hj] at e
          have hjd : j ≠ d := fun e => by have := (q5 d hd).1; omega
          obtain ⟨b, hb⟩ : ∃ b, (Hb (i + 1))[j]? = some b := ⟨_, List.getElem?_eq_getElem (by omega)⟩
          rcases live_at (hlive (i + 1)) hb with hne | h1'
          · have hgb := (getsP_at q3 j b hb).resolve_left hne
            rw [Nat.zero_add] at hgb
            obtain ⟨r, s, qq, x, y, _⟩ := c1.hr.inj j d B K M hjd e hρ (ab_ok (X := X) (ρ := ρ') (w := w') hgb hne (lowsP_at (hlow _) j b hb)) (hdok d hd)
            rw [(q5 d hd).2] at y; cases y
          · have hj1 : j = 1 := by omega
            subst hj1
            rw [s7] at e; cases e
            exact hdS.1 s6
        · rw [cutN_n hj] at e; cases e
      have hH2 : ∀ B ∈ Hs, Hid X (cutN ρ' NN) S1 G.n0 w' B := fun B hB => by
        obtain ⟨x1, x2, x3, x4, x5, x6, x7⟩ := hH' B hB
        refine ⟨x1, x2, fun j K e => ?_, x4, x5, x6, x7⟩
        by_cases hj : j < NN
        · rw [cutN_m hj] at e; exact x3 j K e
        · rw [cutN_n hj] at e; cases e
      have hndB : Bs.Nodup := by
        rw [List.nodup_iff_pairwise_ne, List.pairwise_iff_getElem]
        intro j1 j2 hj1 hj2 hlt e
        obtain ⟨B1, M1, x1, y1⟩ := f3 j1 _ (List.getElem?_eq_getElem (by omega))
        obtain ⟨B2, M2, x2, y2⟩ := f3 j2 _ (List.getElem?_eq_getElem (by omega))
        rw [List.getElem?_eq_getElem hj1] at x1
        rw [List.getElem?_eq_getElem hj2] at x2
        cases x1; cases x2
        rw [← e] at y2
        have hne : s'.m[j1]'(by omega) ≠ s'.m[j2]'(by omega) := fun q => by
          have := (List.pairwise_iff_getElem.1 (List.nodup_iff_pairwise_ne.1 q6)) j1 j2 (by omega) (by omega) hlt
          exact this q
        obtain ⟨r, s, qq, x, _⟩ := c1.hr.inj _ _ _ _ _ hne y1 y2 (hdok _ (List.getElem_mem _)) (hdok _ (List.getElem_mem _))
        rw [(q5 _ (List.getElem_mem _)).2] at x; cases x
      obtain ⟨e', he', er'⟩ := known_env (σ := cutN ρ' NN) (L := St (i + 1)) (tm := a'.tmps) (sz := sz) g3.1 (fun s v hv => by
        have := g3.2 s
        rw [q2 s v hv] at this
        exact low_ok v (lowL_at (hSl _) s v hv) this)
      exact next q1 (cutN ρ' NN) w' a' e' (Bs ++ Hs) S1 Fo1 p9 gw er' he' (by rw [d2, f1, List.map_append]) (fun B hB => (List.mem_append.1 hB).elim (hB' B) (hH2 B)) (List.nodup_append.2 ⟨hndB, hnd, fun B1 hB1 B2 hB2 e => by
        subst e
        obtain ⟨d, hd, M, hρ⟩ := hBs B1 hB1
        exact (hH' B1 hB2).im d M hρ⟩)
  have key : ∀ n i, TT - i = n → i ≤ TT → ∀ (ρ : Map) (w : World) (a : Act) (e : T AV) (Hs : List Nat) (S : Nat → Prop) (Fo : Nat → List Value), PI X ρ (hq NN (Hb i)) w → GhW X ρ (hq NN (Hb i)) w S Fo → ER ρ e a.tmps sz → Has e (St i) → a.defers = Hs.map colD → (∀ B ∈ Hs, Hid X ρ S G.n0 w B) → Hs.Nodup → LoopW X.c.P ro c Q' a w := by
    intro n
    induction n with
    | zero => exact fun i hn hi => step i hi fun hlt => absurd hlt (by omega)
    | succ n ih => exact fun i hn hi => step i hi fun hlt => ih (i + 1) (by omega) (by omega)
  obtain ⟨S0, Fo0, s1, _, _⟩ := p.gh.wit
  obtain ⟨hD1, hD2, hD3⟩ := h4
  have hd0 : a.defers = ([] : List Nat).map colD := by
    have hD2 : hD1 = [] := hD2
    rw [hD3, hD2, hid0]; rfl
  intro b kk cs hro hb hroom
  obtain ⟨e, a', w', hq', harr⟩ := key _ 0 rfl (Nat.zero_le _) ρ w a e0 [] S0 Fo0 p s1 h3 (he0.sub hS) hd0 (fun _ q => by cases q) List.nodup_nil b kk cs hro hb hroom
  exact ⟨e, a', w', hq', .of_steps (.one (fenced_calm hb hroom rfl) stepR_loop) harr⟩⟩
end Go.Px
end
/- FxQ -/
section
set_option linter.unusedVariables false
set_option linter.unusedSimpArgs false
set_option maxHeartbeats 4000000
namespace Go.Px.Fx
open Go.Proofs
attribute [local irreducible] Go.Px.KOk
mutual
/-- a clause, and those within it -/
def Cl.pre : Cl → List Cl
  | .mk k n a o kids => .mk k n a o kids :: preL kids
def preL : List Cl → List Cl
  | [] => []
  | c :: r => c.pre ++ preL r
end
theorem Cl.pre_eq (c : Cl) : c.pre = c :: preL c.kids := by cases c; rfl
theorem preL_app : ∀ a b : List Cl, preL (a ++ b) = preL a ++ preL b
  | [], b => rfl
  | c :: a, b => by
    have := preL_app a b
    simp only [List.cons_append, preL, this, List.append_assoc]
theorem preL_succ {l : List Cl} {i : Nat} (h : i < l.length) : preL (l.take (i + 1)) = preL (l.take i) ++ (l.getD i default).pre := by
  rw [take_succ' h, preL_app]; simp [preL]
def itemC (c : Cl) : List AV := [.agg (encF c)]
theorem item_at {l : List Cl} {j : Nat} {v : List AV} (h : (l.map itemC)[j]? = some v) : j < l.length ∧ v = itemC (l.getD j default) := by
  rw [List.getElem?_map] at h
  by_cases hj : j < l.length
  · rw [List.getElem?_eq_getElem hj] at h
    refine ⟨hj, ?_⟩
    rw [List.getD_eq_getElem?_getD, List.getElem?_eq_getElem hj]
    exact (Option.some.inj h).symm
  · rw [List.getElem?_eq_none (by omega)] at h; cases h
theorem item_of {l : List Cl} {j : Nat} (hj : j < l.length) : (l.map itemC)[j]? = some (itemC (l.getD j default)) := by
  rw [List.getElem?_map, List.getElem?_eq_getElem hj, List.getD_eq_getElem?_getD, List.getElem?_eq_getElem hj]; rfl
/-- the i-th, among all -/
theorem pre_head {l : List Cl} {i : Nat} (h : i < l.length) : (preL (l.take i)).length + 1 + (preL (l.getD i default).kids).length = (preL (l.take (i + 1))).length ∧ (preL (l.take (i + 1))).length ≤ (preL l).length := by
  constructor
  · rw [preL_succ h, List.length_append, Cl.pre_eq, List.length_cons]; omega
  · have := preL_app (l.take (i + 1)) (l.drop (i + 1))
    rw [List.take_append_drop] at this
    rw [this, List.length_append]; omega
theorem pre_at {l : List Cl} {i j : Nat} (h : i < l.length) (hj : j < (preL (l.getD i default).kids).length + 1) : (preL l)[(preL (l.take i)).length + j]? = (l.getD i default).pre[j]? := by
  have e := preL_app (l.take (i + 1)) (l.drop (i + 1))
  rw [List.take_append_drop, preL_succ h] at e
  have hl : (l.getD i default).pre.length = (preL (l.getD i default).kids).length + 1 := by rw [Cl.pre_eq]; rfl
  rw [e, List.getElem?_append_left (by rw [List.length_append]; omega), List.getElem?_append_right (by omega), Nat.add_sub_cancel_left]
theorem it_head {l : List Cl} {i : Nat} (h : i < l.length) : ((preL l).map itemC)[(preL (l.take i)).length]? = some [.agg (encF (l.getD i default))] := by
  have := pre_at (j := 0) h (by omega)
  rw [Nat.add_zero, Cl.pre_eq] at this
  rw [List.getElem?_map, this]; rfl
theorem it_kid {l : List Cl} {i j : Nat} (h : i < l.length) (hj : j < (preL (l.getD i default).kids).length) : ((preL l).map itemC)[(preL (l.take i)).length + 1 + j]? = some [.agg (encF ((preL (l.getD i default).kids).getD j default))] := by
  have := pre_at (j := 1 + j) h (by omega)
  rw [← Nat.add_assoc, Cl.pre_eq, Nat.add_comm 1 j, List.getElem?_cons_succ, List.getElem?_eq_getElem hj] at this
  have e : (preL (l.getD i default).kids).getD j default = (preL (l.getD i default).kids)[j] := by rw [List.getD_eq_getElem?_getD, List.getElem?_eq_getElem hj]; rfl
  rw [List.getElem?_map, this, e]; rfl
theorem k32 (l : List Cl) : KOk cF 32 [clsA l] (.fn (.func 48) [] [.rptr [clsA l]]) := by
  refine KOk.of cF_ok eF.g Try.func32 rfl (Nat.le_of_ble_eq_true rfl) fun w F => ?_
  repeat' first | refine Go.seq ?_ | refine Go.region rfl ?_ | refine Ops.nil ?_ | refine Ops.val eF rfl rfl (by first | exact Want.no rfl | exact Want.tT rfl rfl rfl rfl | exact Want.fF rfl rfl rfl rfl) (by first | exact Hop.assign rfl rfl | exact Hop.makeFunc rfl rfl rfl) ?_ | refine Ops.boxR eF rfl rfl (by first | exact Want.no rfl | exact Want.tT rfl rfl rfl rfl | exact Want.fF rfl rfl rfl rfl) rfl rfl rfl rfl ?_ | refine Go.retF rfl ?_ rfl
  all_goals rfl
theorem it48 : ∀ (N : Nat) (l : List Cl), cntL l < N → cntL l ≤ 100000 → KIt cF 48 [.rptr [clsA l]] ((preL l).map itemC) := by
  intro N
  induction N with
  | zero => intro l hN; omega
  | succ N IH =>
  intro l hN hb
  have hlen := cntL_len l
  rw [clsA_eq]
  refine KIt.of cF_ok eF.g Try.func48 rfl rfl fun w F opn G gx hG => ?_
  repeat' first | refine Go.seq ?_ | refine Go.region rfl ?_ | refine Ops.nil ?_ | refine Ops.val eF rfl rfl (by first | exact Want.no rfl | exact Want.tT rfl rfl rfl rfl | exact Want.fF rfl rfl rfl rfl) (by first | exact Hop.move rfl rfl | exact Hop.ldR eF rfl rfl rfl rfl rfl | exact Hop.lenD eF rfl rfl rfl rfl rfl rfl rfl) ?_ | refine Ops.rowAt eF 2 rfl rfl (by first | exact Want.no rfl | exact Want.tT rfl rfl rfl rfl | exact Want.fF rfl rfl rfl rfl) rfl (Hop.boxC rfl rfl rfl) ?_ | refine Go.block ?_
  refine Go.toHQ (N := 3) (bs := [.arr 0 0 0 [], .none, .row ⟨80, 1, .leaf, [.fn (.yield 1) [] []], none⟩]) (L' := [(1, .rptr [dsl 5 encF l]), (2, .ptr 2 0), (6, dsl 5 encF l), (7, .int .i64 l.length), (8, .int .i64 0)]) ?_ rfl eF.g ⟨rfl, rfl, rfl, rfl, rfl, trivial⟩ rfl rfl ⟨.inr rfl, .inl rfl, .inr rfl, trivial⟩ ⟨trivial, trivial, low_row rfl rfl, trivial⟩ rfl rfl
  refine Go.loopB (TT := l.length) (NN := 3) (N := ((preL l).map itemC).length) rfl eF.g (fun i => [(1, .rptr [dsl 5 encF l]), (2, .ptr 2 0), (6, dsl 5 encF l), (7, .int .i64 l.length), (8, .int .i64 i)]) (fun i => [.arr 0 (preL (l.take i)).length 0 [], .none, .row ⟨80, 1, .leaf, [.fn (.yield 1) [] []], none⟩]) (fun _ => rfl) (fun _ => ⟨trivial, trivial, low_row rfl rfl, trivial⟩) (fun _ => rfl) (fun _ => rfl) rfl rfl (fun _ => ⟨_, _, _, _, rfl⟩) ⟨rfl, rfl, rfl, rfl, rfl, trivial⟩ rfl (fun i hi b => ?_)
  have hk := k32 (l.getD i default).kids
  repeat' first | refine Go.seq ?_ | refine Go.region rfl ?_ | refine Ops.nil ?_ | refine Ops.val (d := 13) (v := .agg (encF (l.getD i default))) eF rfl rfl (by first | exact Want.no rfl | exact Want.tT rfl rfl rfl rfl | exact Want.fF rfl rfl rfl rfl) (by exact Hop.ldPG eF rfl rfl rfl rfl rfl rfl rfl) ?_ | refine Ops.yieldJ eF (by first | exact Want.no rfl | exact Want.tT rfl rfl rfl rfl | exact Want.fF rfl rfl rfl rfl) rfl rfl rfl rfl rfl rfl rfl (by rw [hG]; exact it_head (by omega)) rfl rfl ?_ ?_ | refine Ops.val eF rfl rfl (by first | exact Want.no rfl | exact Want.tT rfl rfl rfl rfl | exact Want.fF rfl rfl rfl rfl) (by first | exact Hop.not rfl rfl | exact Hop.lss rfl rfl rfl | exact Hop.faP eF rfl rfl rfl rfl rfl rfl rfl | exact Hop.idx eF rfl rfl rfl rfl rfl rfl rfl (fun _ => rfl) (by omega) | exact Hop.ldRG eF rfl rfl rfl rfl rfl | exact Hop.ldP eF rfl rfl rfl rfl rfl rfl rfl) ?_ | refine Ops.call eF rfl rfl (by first | exact Want.no rfl | exact Want.tT rfl rfl rfl rfl | exact Want.fF rfl rfl rfl rfl) rfl rfl rfl rfl (hk) rfl ?_ | refine Ops.rowAt eF 3 rfl rfl (by first | exact Want.no rfl | exact Want.tT rfl rfl rfl rfl | exact Want.fF rfl rfl rfl rfl) rfl (Hop.alloc eF rfl rfl rfl) ?_ | refine Ops.unit eF rfl (by first | exact Want.no rfl | exact Want.tT rfl rfl rfl rfl | exact Want.fF rfl rfl rfl rfl) (Hop.store eF rfl rfl rfl rfl rfl rfl) (ArrKeep.put rfl) ?_ | refine Go.condT rfl ?_ | refine Go.condF rfl ?_ | refine Go.condPt rfl (fun _ => ?_) (fun _ => ?_) | refine Go.block ?_ | refine Go.skip ?_
  case succ.refine_1.refine_2 => exact Go.retB ⟨⟨_, _, _, _, rfl, .inr (by rw [hG])⟩, (fun _ q => by cases q), List.nodup_nil, rfl⟩
  case succ.refine_2 =>
    refine Go.endB rfl ?_
    refine ⟨⟨_, _, _, _, rfl, .inl ?_⟩, (fun _ q => by cases q), List.nodup_nil, rfl⟩
    rw [List.length_map, show i = l.length by omega, List.take_length]
  rename_i hlt
  have hlt : i < l.length := by omega
  obtain ⟨hp1, hp2⟩ := pre_head hlt
  have hc := cntL_at (l := l) (i := i) hlt
  rw [Cl.cnt_eq] at hc
  refine Go.to (M := [(2, .ptr 2 0), (1, .rptr [dsl 5 encF l]), (6, dsl 5 encF l), (7, .int .i64 l.length), (8, .int .i64 i), (18, .fn (.func 48) [] [.rptr [clsA (l.getD i default).kids]])]) ?_ ⟨rfl, rfl, rfl, rfl, rfl, rfl, trivial⟩
  refine Go.rangeK eF 4 rfl rfl rfl (IH (l.getD i default).kids (by omega) (by omega)) rfl (fun j => hq 5 [.arr 0 ((preL (l.take i)).length + 1 + j) 0 [], .none, .row ⟨80, 1, .leaf, [.fn (.yield 1) [] []], none⟩, .none, .dfr true])
    (fun b => ChgE.cut _ rfl eF.g rfl ⟨.inr rfl, .inl rfl, .inr rfl, .inl rfl, .inr rfl, trivial⟩ ⟨trivial, trivial, low_row rfl rfl, trivial, trivial, trivial⟩) (fun j v hv => by rw [(item_at hv).2]; rfl) rfl (fun j v hv b2 => ?_) ?_
  · obtain ⟨hj, rfl⟩ := item_at hv
    repeat' first | refine Go.region rfl ?_ | refine Ops.nil ?_ | refine Ops.rowAt eF 5 rfl rfl (by first | exact Want.no rfl | exact Want.tT rfl rfl rfl rfl | exact Want.fF rfl rfl rfl rfl) rfl (Hop.alloc eF rfl rfl rfl) ?_ | refine Ops.unit eF rfl (by first | exact Want.no rfl | exact Want.tT rfl rfl rfl rfl | exact Want.fF rfl rfl rfl rfl) (Hop.store eF rfl rfl rfl rfl rfl rfl) (ArrKeep.put rfl) ?_
    refine Go.bodyK (fun b3 => ?_)
    repeat' first | refine Go.seq ?_ | refine Go.region rfl ?_ | refine Ops.nil ?_ | refine Ops.val (d := 21) (v := .agg (encF ((preL (l.getD i default).kids).getD j default))) eF rfl rfl (by first | exact Want.no rfl | exact Want.tT rfl rfl rfl rfl | exact Want.fF rfl rfl rfl rfl) (by exact Hop.ldPG eF rfl rfl rfl rfl rfl rfl rfl) ?_ | refine Ops.yieldJ eF (by first | exact Want.no rfl | exact Want.tT rfl rfl rfl rfl | exact Want.fF rfl rfl rfl rfl) rfl rfl rfl rfl rfl rfl rfl (by rw [hG]; exact it_kid hlt hj) rfl rfl ?_ ?_ | refine Ops.val eF rfl rfl (by first | exact Want.no rfl | exact Want.tT rfl rfl rfl rfl | exact Want.fF rfl rfl rfl rfl) (by first | exact Hop.not rfl rfl | exact Hop.ldP eF rfl rfl rfl rfl rfl rfl rfl) ?_ | refine Go.condT rfl ?_ | refine Go.condF rfl ?_ | refine Go.block ?_ | refine Go.unblk ?_ | refine Go.skip ?_
    · exact Go.nextK (ChgE.cut _ rfl eF.g rfl ⟨.inr rfl, .inl rfl, .inr rfl, .inl rfl, .inr rfl, trivial⟩ ⟨trivial, trivial, low_row rfl rfl, trivial, trivial, trivial⟩)
    · exact Go.stopR fun e he => ⟨⟨_, _, _, _, rfl, .inr (by rw [hG])⟩, (fun d q => by cases List.mem_singleton.1 q; rfl), by simp, rfl⟩
  · repeat' first | refine Go.region rfl ?_ | refine Ops.nil ?_ | refine Ops.val eF rfl rfl (by first | exact Want.no rfl | exact Want.tT rfl rfl rfl rfl | exact Want.fF rfl rfl rfl rfl) (by first | exact Hop.move rfl rfl | exact Hop.add rfl rfl rfl (by omega)) ?_ | refine Go.unblk ?_
    refine Go.nextB (by omega) ⟨rfl, rfl, rfl, rfl, rfl, trivial⟩ ⟨.inr ?_, .inl rfl, .inr rfl, trivial⟩ rfl (fun d q => by cases List.mem_singleton.1 q; exact ⟨by omega, rfl⟩) (by simp)
    rw [← hp1]; simp only [List.length_map]; rfl
end Go.Px.Fx
end
/- FxS -/
section
namespace Go.Proofs
open Go.Shelf
def Try.lays128_ren : Go.Shelf.Ren := ⟨fun | 128 => 69 | n => n, fun | 51 => 96 | 3 => 3 | 4 => 4 | 46 => 69 | 5 => 5 | 9 => 9 | n => n, fun | n => n⟩
theorem Try.lays128 : Go.Proofs.Lays.n128 Try.prog Try.lays128_ren := {
  mixed := by kernel_rfl
  f128 := Try.func69.trans (congrArg some (by kernel_rfl))
  t3 := Try.underlying3
  a3 := Try.isAgg3
  z3 := Try.sizeOf3
  v3 := Try.zeroValue3
  t4 := Try.underlying4
  a4 := Try.isAgg4
  z4 := Try.sizeOf4
  v4 := Try.zeroValue4
  t5 := Try.underlying5
  a5 := Try.isAgg5
  z5 := Try.sizeOf5
  v5 := Try.zeroValue5
  t9 := Try.underlying9
  a9 := Try.isAgg9
  z9 := Try.sizeOf9
  v9 := Try.zeroValue9
  t46 := Try.underlying69
  a46 := Try.isAgg69
  z46 := Try.sizeOf69
  v46 := Try.zeroValue69
  t51 := Try.underlying96
  a51 := Try.isAgg96
  z51 := Try.sizeOf96
  v51 := Try.zeroValue96 }
/-- bits.Len32: "Len32 returns the minimum number of bits required to represent x; the result is 0 for x == 0.": IT RETURNS 'Lib.bitLen x'; the world is as it was. ('h0', 'h1': x is a uint32.) (LAID: no walk: one application.) -/
theorem Try.bits_Len32 (x : Int) (w : World) (h0 : 0 ≤ x) (h1 : x ≤ 4294967295) :
    Calls Try.prog 69 #[.int .u32 x] w fun e w' => e = .returned (.int .i64 (Lib.bitLen x.toNat)) ∧ w' = w := Any.bits_Len32 Try.lays128 x w h0 h1
def Try.lays125_ren : Go.Shelf.Ren := ⟨fun | 125 => 51 | 128 => 69 | 129 => 70 | n => n, fun | 46 => 69 | 3 => 3 | 51 => 96 | 53 => 98 | 4 => 4 | 5 => 5 | 9 => 9 | n => n, fun | n => n⟩
theorem Try.lays125 : Go.Proofs.Lays.n125 Try.prog Try.lays125_ren := {
  mixed := by kernel_rfl
  f125 := Try.func51.trans (congrArg some (by kernel_rfl))
  f128 := Try.func69.trans (congrArg some (by kernel_rfl))
  f129 := Try.func70.trans (congrArg some (by kernel_rfl))
  t3 := Try.underlying3
  a3 := Try.isAgg3
  z3 := Try.sizeOf3
  v3 := Try.zeroValue3
  t4 := Try.underlying4
  a4 := Try.isAgg4
  z4 := Try.sizeOf4
  v4 := Try.zeroValue4
  t5 := Try.underlying5
  a5 := Try.isAgg5
  z5 := Try.sizeOf5
  v5 := Try.zeroValue5
  t9 := Try.underlying9
  a9 := Try.isAgg9
  z9 := Try.sizeOf9
  v9 := Try.zeroValue9
  t46 := Try.underlying69
  a46 := Try.isAgg69
  z46 := Try.sizeOf69
  v46 := Try.zeroValue69
  t51 := Try.underlying96
  a51 := Try.isAgg96
  z51 := Try.sizeOf96
  v51 := Try.zeroValue96
  t53 := Try.underlying98
  a53 := Try.isAgg98
  z53 := Try.sizeOf98
  v53 := Try.zeroValue98 }
/-- bits.Len: "Len returns the minimum number of bits required to represent x; the result is 0 for x == 0.": IT RETURNS 'Lib.bitLen x'; the world is as it was. (A uint has 64 bits in the model.) ITS CALLEE bits.Len64 IS MET BY ITS OWN CONTRACT OFF THE SHELF (lay that first). (LAID: no walk: one application.) -/
theorem Try.bits_Len (x : Int) (w : World) (h0 : 0 ≤ x) (h1 : x ≤ 18446744073709551615) :
    Calls Try.prog 51 #[.int .u64 x] w fun e w' => e = .returned (.int .i64 (Lib.bitLen x.toNat)) ∧ w' = w := Any.bits_Len Try.lays125 x w h0 h1
def Try.lays213_ren : Go.Shelf.Ren := ⟨fun | 213 => 55 | 265 => 71 | n => n, fun | 9 => 9 | 3 => 3 | n => n, fun | n => n⟩
theorem Try.lays213 : Go.Proofs.Lays.n213 Try.prog Try.lays213_ren := {
  mixed := by kernel_rfl
  f213 := Try.func55.trans (congrArg some (by kernel_rfl))
  f265 := Try.func71.trans (congrArg some (by kernel_rfl))
  t3 := Try.underlying3
  a3 := Try.isAgg3
  z3 := Try.sizeOf3
  v3 := Try.zeroValue3
  t9 := Try.underlying9
  a9 := Try.isAgg9
  z9 := Try.sizeOf9
  v9 := Try.zeroValue9 }
open Go.RowKit in
/-- internal/bytealg.CompareString (what strings.Compare calls): IT RETURNS 'Lib.compareBytes a b'; the world is as it was. (LAID: no walk: one application.) -/
theorem Try.bytealg_CompareString (a b : ByteArray) (w : World) :
    Calls Try.prog 55 #[.string a, .string b] w fun e w' => e = .returned (.int .i64 (Lib.compareBytes a.data.toList b.data.toList)) ∧ w' = w := Any.bytealg_CompareString Try.lays213 a b w
def Try.lays106_ren : Go.Shelf.Ren := ⟨fun | 106 => 41 | 213 => 55 | 265 => 71 | n => n, fun | 9 => 9 | 3 => 3 | n => n, fun | n => n⟩
theorem Try.lays106 : Go.Proofs.Lays.n106 Try.prog Try.lays106_ren := {
  mixed := by kernel_rfl
  f106 := Try.func41.trans (congrArg some (by kernel_rfl))
  f213 := Try.func55.trans (congrArg some (by kernel_rfl))
  f265 := Try.func71.trans (congrArg some (by kernel_rfl))
  t3 := Try.underlying3
  a3 := Try.isAgg3
  z3 := Try.sizeOf3
  v3 := Try.zeroValue3
  t9 := Try.underlying9
  a9 := Try.isAgg9
  z9 := Try.sizeOf9
  v9 := Try.zeroValue9 }
open Go.RowKit in
/-- strings.Compare: "Compare returns an integer comparing two strings lexicographically. The result will be 0 if a == b, -1 if a < b, and +1 if a > b.": IT RETURNS 'Lib.compareBytes a b'; the world is as it was. (LAID: no walk: one application.) -/
theorem Try.strings_Compare (a b : ByteArray) (w : World) :
    Calls Try.prog 41 #[.string a, .string b] w fun e w' => e = .returned (.int .i64 (Lib.compareBytes a.data.toList b.data.toList)) ∧ w' = w := Any.strings_Compare Try.lays106 a b w
def Try.lays137_ren : Go.Shelf.Ren := ⟨fun | 137 => 60 | 217 => 73 | 266 => 80 | n => n, fun | 9 => 9 | 5 => 5 | 3 => 3 | n => n, fun | n => n⟩
theorem Try.lays137 : Go.Proofs.Lays.n137 Try.prog Try.lays137_ren := {
  mixed := by kernel_rfl
  f137 := Try.func60.trans (congrArg some (by kernel_rfl))
  f217 := Try.func73.trans (congrArg some (by kernel_rfl))
  f266 := Try.func80.trans (congrArg some (by kernel_rfl))
  t3 := Try.underlying3
  a3 := Try.isAgg3
  z3 := Try.sizeOf3
  v3 := Try.zeroValue3
  t5 := Try.underlying5
  a5 := Try.isAgg5
  z5 := Try.sizeOf5
  v5 := Try.zeroValue5
  t9 := Try.underlying9
  a9 := Try.isAgg9
  z9 := Try.sizeOf9
  v9 := Try.zeroValue9 }
open Go.RowKit in
/-- strings.IndexByte: "IndexByte returns the index of the first instance of c in s, or -1 if c is not present in s.": IT RETURNS 'Lib.indexByte s c'; the world is as it was. (LAID: no walk: one application.) -/
theorem Try.strings_IndexByte (s : ByteArray) (c : Int) (w : World) :
    Calls Try.prog 60 #[.string s, .int .u8 c] w fun e w' => e = .returned (.int .i64 (Lib.indexByte s.data.toList c.toNat.toUInt8)) ∧ w' = w := Any.strings_IndexByte Try.lays137 s c w
def Try.lays215_ren : Go.Shelf.Ren := ⟨fun | 215 => 53 | n => n, fun | 3 => 3 | 4 => 4 | n => n, fun | n => n⟩
theorem Try.lays215 : Go.Proofs.Lays.n215 Try.prog Try.lays215_ren := {
  mixed := by kernel_rfl
  f215 := Try.func53.trans (congrArg some (by kernel_rfl))
  t3 := Try.underlying3
  a3 := Try.isAgg3
  z3 := Try.sizeOf3
  v3 := Try.zeroValue3
  t4 := Try.underlying4
  a4 := Try.isAgg4
  z4 := Try.sizeOf4
  v4 := Try.zeroValue4 }
open Go.RowKit in
/-- cmp.isNaN at int: 'x != x': false. (LAID: no walk: one application.) -/
theorem Try.cmp_isNaN_int (x : Int) (w : World) :
    Calls Try.prog 53 #[.int .i64 x] w fun e w' => e = .returned (.bool false) ∧ w' = w := Any.cmp_isNaN_int Try.lays215 x w
def Try.lays122_ren : Go.Shelf.Ren := ⟨fun | 122 => 39 | 215 => 53 | n => n, fun | 3 => 3 | 4 => 4 | n => n, fun | n => n⟩
theorem Try.lays122 : Go.Proofs.Lays.n122 Try.prog Try.lays122_ren := {
  mixed := by kernel_rfl
  f122 := Try.func39.trans (congrArg some (by kernel_rfl))
  f215 := Try.func53.trans (congrArg some (by kernel_rfl))
  t3 := Try.underlying3
  a3 := Try.isAgg3
  z3 := Try.sizeOf3
  v3 := Try.zeroValue3
  t4 := Try.underlying4
  a4 := Try.isAgg4
  z4 := Try.sizeOf4
  v4 := Try.zeroValue4 }
open Go.RowKit in
/-- cmp.Compare at int: "Compare returns -1 if x is less than y, 0 if x equals y, +1 if x is greater than y.": IT RETURNS 'Lib.compareInt x y'; the world is as it was. (LAID: no walk: one application.) -/
theorem Try.cmp_Compare_int (x y : Int) (w : World) :
    Calls Try.prog 39 #[.int .i64 x, .int .i64 y] w fun e w' => e = .returned (.int .i64 (Lib.compareInt x y)) ∧ w' = w := Any.cmp_Compare_int Try.lays122 x y w
def Try.lays129_ren : Go.Shelf.Ren := ⟨fun | 129 => 70 | n => n, fun | 53 => 98 | 3 => 3 | 4 => 4 | 46 => 69 | 5 => 5 | 9 => 9 | n => n, fun | n => n⟩
theorem Try.lays129 : Go.Proofs.Lays.n129 Try.prog Try.lays129_ren := {
  mixed := by kernel_rfl
  f129 := Try.func70.trans (congrArg some (by kernel_rfl))
  t3 := Try.underlying3
  a3 := Try.isAgg3
  z3 := Try.sizeOf3
  v3 := Try.zeroValue3
  t4 := Try.underlying4
  a4 := Try.isAgg4
  z4 := Try.sizeOf4
  v4 := Try.zeroValue4
  t5 := Try.underlying5
  a5 := Try.isAgg5
  z5 := Try.sizeOf5
  v5 := Try.zeroValue5
  t9 := Try.underlying9
  a9 := Try.isAgg9
  z9 := Try.sizeOf9
  v9 := Try.zeroValue9
  t46 := Try.underlying69
  a46 := Try.isAgg69
  z46 := Try.sizeOf69
  v46 := Try.zeroValue69
  t53 := Try.underlying98
  a53 := Try.isAgg98
  z53 := Try.sizeOf98
  v53 := Try.zeroValue98 }
/-- bits.Len64: "Len64 returns the minimum number of bits required to represent x; the result is 0 for x == 0.": IT RETURNS 'Lib.bitLen x'; the world is as it was. ('h0', 'h1': x is a uint64.) (LAID: no walk: one application.) -/
theorem Try.bits_Len64 (x : Int) (w : World) (h0 : 0 ≤ x) (h1 : x ≤ 18446744073709551615) :
    Calls Try.prog 70 #[.int .u64 x] w fun e w' => e = .returned (.int .i64 (Lib.bitLen x.toNat)) ∧ w' = w := Any.bits_Len64 Try.lays129 x w h0 h1
def Try.lays217_ren : Go.Shelf.Ren := ⟨fun | 217 => 73 | 266 => 80 | n => n, fun | 9 => 9 | 5 => 5 | 3 => 3 | n => n, fun | n => n⟩
theorem Try.lays217 : Go.Proofs.Lays.n217 Try.prog Try.lays217_ren := {
  mixed := by kernel_rfl
  f217 := Try.func73.trans (congrArg some (by kernel_rfl))
  f266 := Try.func80.trans (congrArg some (by kernel_rfl))
  t3 := Try.underlying3
  a3 := Try.isAgg3
  z3 := Try.sizeOf3
  v3 := Try.zeroValue3
  t5 := Try.underlying5
  a5 := Try.isAgg5
  z5 := Try.sizeOf5
  v5 := Try.zeroValue5
  t9 := Try.underlying9
  a9 := Try.isAgg9
  z9 := Try.sizeOf9
  v9 := Try.zeroValue9 }
open Go.RowKit Go.Lib in
/-- internal/stringslite.IndexByte (what strings.IndexByte calls): IT RETURNS 'Lib.indexByte s c'; the world is as it was. (LAID: no walk: one application.) -/
theorem Try.stringslite_IndexByte (s : ByteArray) (c : Int) (w : World) :
    Calls Try.prog 73 #[.string s, .int .u8 c] w fun e w' => e = .returned (.int .i64 (Lib.indexByte s.data.toList c.toNat.toUInt8)) ∧ w' = w := Any.stringslite_IndexByte Try.lays217 s c w
def Try.lays190_ren : Go.Shelf.Ren := ⟨fun | 190 => 34 | 125 => 51 | 258 => 50 | 128 => 69 | 129 => 70 | 302 => 61 | 303 => 62 | 304 => 63 | 305 => 64 | 306 => 65 | 307 => 66 | 308 => 36 | 309 => 67 | 310 => 68 | 333 => 74 | 329 => 75 | 330 => 76 | 334 => 77 | 335 => 78 | 336 => 52 | 344 => 81 | n => n, fun | 31 => 25 | 9 => 9 | 3 => 3 | 46 => 69 | 0 => 0 | 51 => 96 | 53 => 98 | 4 => 4 | 183 => 90 | 182 => 89 | 131 => 51 | 5 => 5 | 218 => 99 | 222 => 103 | 228 => 106 | 229 => 107 | n => n, fun | n => n⟩
theorem Try.lays190 : Go.Proofs.Lays.n190 Try.prog Try.lays190_ren := {
  mixed := by kernel_rfl
  f125 := Try.func51.trans (congrArg some (by kernel_rfl))
  f128 := Try.func69.trans (congrArg some (by kernel_rfl))
  f129 := Try.func70.trans (congrArg some (by kernel_rfl))
  f190 := Try.func34.trans (congrArg some (by kernel_rfl))
  f258 := Try.func50.trans (congrArg some (by kernel_rfl))
  f302 := Try.func61.trans (congrArg some (by kernel_rfl))
  f303 := Try.func62.trans (congrArg some (by kernel_rfl))
  f304 := Try.func63.trans (congrArg some (by kernel_rfl))
  f305 := Try.func64.trans (congrArg some (by kernel_rfl))
  f306 := Try.func65.trans (congrArg some (by kernel_rfl))
  f307 := Try.func66.trans (congrArg some (by kernel_rfl))
  f308 := Try.func36.trans (congrArg some (by kernel_rfl))
  f309 := Try.func67.trans (congrArg some (by kernel_rfl))
  f310 := Try.func68.trans (congrArg some (by kernel_rfl))
  f329 := Try.func75.trans (congrArg some (by kernel_rfl))
  f330 := Try.func76.trans (congrArg some (by kernel_rfl))
  f333 := Try.func74.trans (congrArg some (by kernel_rfl))
  f334 := Try.func77.trans (congrArg some (by kernel_rfl))
  f335 := Try.func78.trans (congrArg some (by kernel_rfl))
  f336 := Try.func52.trans (congrArg some (by kernel_rfl))
  f344 := Try.func81.trans (congrArg some (by kernel_rfl))
  t0 := Try.underlying0
  a0 := Try.isAgg0
  z0 := Try.sizeOf0
  v0 := Try.zeroValue0
  t3 := Try.underlying3
  a3 := Try.isAgg3
  z3 := Try.sizeOf3
  v3 := Try.zeroValue3
  t4 := Try.underlying4
  a4 := Try.isAgg4
  z4 := Try.sizeOf4
  v4 := Try.zeroValue4
  t5 := Try.underlying5
  a5 := Try.isAgg5
  z5 := Try.sizeOf5
  v5 := Try.zeroValue5
  t9 := Try.underlying9
  a9 := Try.isAgg9
  z9 := Try.sizeOf9
  v9 := Try.zeroValue9
  t31 := Try.underlying25
  a31 := Try.isAgg25
  z31 := Try.sizeOf25
  v31 := Try.zeroValue25
  t46 := Try.underlying69
  a46 := Try.isAgg69
  z46 := Try.sizeOf69
  v46 := Try.zeroValue69
  t51 := Try.underlying96
  a51 := Try.isAgg96
  z51 := Try.sizeOf96
  v51 := Try.zeroValue96
  t53 := Try.underlying98
  a53 := Try.isAgg98
  z53 := Try.sizeOf98
  v53 := Try.zeroValue98
  t131 := Try.underlying51
  a131 := Try.isAgg51
  z131 := Try.sizeOf51
  v131 := Try.zeroValue51
  t182 := Try.underlying89
  a182 := Try.isAgg89
  z182 := Try.sizeOf89
  v182 := Try.zeroValue89
  t183 := Try.underlying90
  a183 := Try.isAgg90
  z183 := Try.sizeOf90
  v183 := Try.zeroValue90
  t218 := Try.underlying99
  a218 := Try.isAgg99
  z218 := Try.sizeOf99
  v218 := Try.zeroValue99
  t222 := Try.underlying103
  a222 := Try.isAgg103
  z222 := Try.sizeOf103
  v222 := Try.zeroValue103
  t228 := Try.underlying106
  a228 := Try.isAgg106
  z228 := Try.sizeOf106
  v228 := Try.zeroValue106
  t229 := Try.underlying107
  a229 := Try.isAgg107
  z229 := Try.sizeOf107
  v229 := Try.zeroValue107 }
open Go.Sort Go.RowKit in
theorem Try.slices_Sort_string (blk off cap : Nat) (ss : List (List UInt8)) (w : World) (hH : Holds encStr w blk off ss.toArray) (hblk : blk < w.heap.size) (hsz : ss.length < 4611686018427387904) :
    Calls Try.prog 34 #[.slice (some ⟨blk, off, none⟩) ss.length cap] w fun e w' =>
      e = .returned (.tuple #[]) ∧ ∃ n os, w' = grow (putRow encStr (Sort.ahead w n) blk off (ss.mergeSort fun x y => decide (x ≤ y)).toArray) os := Any.slices_Sort_string Try.lays190 blk off cap ss w hH hblk hsz
def Try.lays109_ren : Go.Shelf.Ren := ⟨fun | 109 => 47 | n => n, fun | 31 => 25 | 9 => 9 | 3 => 3 | 0 => 0 | 4 => 4 | n => n, fun | n => n⟩
theorem Try.lays109 : Go.Proofs.Lays.n109 Try.prog Try.lays109_ren := {
  mixed := by kernel_rfl
  f109 := Try.func47.trans (congrArg some (by kernel_rfl))
  t0 := Try.underlying0
  a0 := Try.isAgg0
  z0 := Try.sizeOf0
  v0 := Try.zeroValue0
  t3 := Try.underlying3
  a3 := Try.isAgg3
  z3 := Try.sizeOf3
  v3 := Try.zeroValue3
  t4 := Try.underlying4
  a4 := Try.isAgg4
  z4 := Try.sizeOf4
  v4 := Try.zeroValue4
  t9 := Try.underlying9
  a9 := Try.isAgg9
  z9 := Try.sizeOf9
  v9 := Try.zeroValue9
  t31 := Try.underlying25
  a31 := Try.isAgg25
  z31 := Try.sizeOf25
  v31 := Try.zeroValue25 }
open Go.Lib in
/-- slices.Index at []string: "Index returns the index of the first occurrence of v in s, or -1 if not present.": IT RETURNS 'Lib.idxOfS (the elements) v'; the world is as it was. 'zs': what the cells behind the slice's address hold (its spare capacity too, if you have it); 'zs.take n': its elements. (LAID: no walk: one application.) -/
theorem Try.slices_Index_string (b off n c : Nat) (zs : List ByteArray) (x : ByteArray) (w : World) (hz : n ≤ zs.length) (hbig : n ≤ 9223372036854775807) (hc : ∀ j, j < zs.length → w.cell? ⟨b, off + j, none⟩ = some (.string (zs.getD j ByteArray.empty))) :
    Calls Try.prog 47 #[.slice (some ⟨b, off, none⟩) n c, .string x] w fun e w' => e = .returned (.int .i64 (Lib.idxOfS (zs.take n) x)) ∧ w' = w := Any.slices_Index_string Try.lays109 b off n c zs x w hz hbig hc
open Go.Lib in
/-- The same at a slice of length 0, a nil one too: no cell is known, none is asked for. (LAID: no walk: one application.) -/
theorem Try.slices_Index_string_empty (a : Option Addr) (c : Nat) (x : ByteArray) (w : World) :
    Calls Try.prog 47 #[.slice a 0 c, .string x] w fun e w' => e = .returned (.int .i64 (Lib.idxOfS [] x)) ∧ w' = w := Any.slices_Index_string_empty Try.lays109 a c x w
def Try.lays110_ren : Go.Shelf.Ren := ⟨fun | 110 => 29 | 109 => 47 | n => n, fun | 31 => 25 | 9 => 9 | 4 => 4 | 3 => 3 | 0 => 0 | n => n, fun | n => n⟩
theorem Try.lays110 : Go.Proofs.Lays.n110 Try.prog Try.lays110_ren := {
  mixed := by kernel_rfl
  f109 := Try.func47.trans (congrArg some (by kernel_rfl))
  f110 := Try.func29.trans (congrArg some (by kernel_rfl))
  t0 := Try.underlying0
  a0 := Try.isAgg0
  z0 := Try.sizeOf0
  v0 := Try.zeroValue0
  t3 := Try.underlying3
  a3 := Try.isAgg3
  z3 := Try.sizeOf3
  v3 := Try.zeroValue3
  t4 := Try.underlying4
  a4 := Try.isAgg4
  z4 := Try.sizeOf4
  v4 := Try.zeroValue4
  t9 := Try.underlying9
  a9 := Try.isAgg9
  z9 := Try.sizeOf9
  v9 := Try.zeroValue9
  t31 := Try.underlying25
  a31 := Try.isAgg25
  z31 := Try.sizeOf25
  v31 := Try.zeroValue25 }
open Go.Lib in
/-- slices.Contains at []string: "Contains reports whether v is present in s.": IT RETURNS 'Lib.containsS (the elements) v', which is true just where v is among them ('Lib.containsS_iff'); the world is as it was. ITS CALLEE slices.Index IS MET BY ITS OWN CONTRACT OFF THE SHELF (lay that first): no loop is walked here. (LAID: no walk: one application.) -/
theorem Try.slices_Contains_string (b off n c : Nat) (zs : List ByteArray) (x : ByteArray) (w : World) (hz : n ≤ zs.length) (hbig : n ≤ 9223372036854775807) (hc : ∀ j, j < zs.length → w.cell? ⟨b, off + j, none⟩ = some (.string (zs.getD j ByteArray.empty))) :
    Calls Try.prog 29 #[.slice (some ⟨b, off, none⟩) n c, .string x] w fun e w' => e = .returned (.bool (Lib.containsS (zs.take n) x)) ∧ w' = w := Any.slices_Contains_string Try.lays110 b off n c zs x w hz hbig hc
open Go.Lib in
/-- The same at a slice of length 0, a nil one too. (LAID: no walk: one application.) -/
theorem Try.slices_Contains_string_empty (a : Option Addr) (c : Nat) (x : ByteArray) (w : World) :
    Calls Try.prog 29 #[.slice a 0 c, .string x] w fun e w' => e = .returned (.bool false) ∧ w' = w := Any.slices_Contains_string_empty Try.lays110 a c x w
def Try.laysNm216_ren : Go.Shelf.Ren := ⟨fun | 16 => 25 | n => n, fun | 24 => 25 | 9 => 9 | 4 => 4 | n => n, fun | n => n⟩
theorem Try.laysNm216 : Go.Proofs.Lays2.n16 Try.prog Try.laysNm216_ren := {
  mixed := by kernel_rfl
  f16 := Try.func25.trans (congrArg some (by kernel_rfl))
  t4 := Try.underlying4
  a4 := Try.isAgg4
  z4 := Try.sizeOf4
  v4 := Try.zeroValue4
  t9 := Try.underlying9
  a9 := Try.isAgg9
  z9 := Try.sizeOf9
  v9 := Try.zeroValue9
  t24 := Try.underlying25
  a24 := Try.isAgg25
  z24 := Try.sizeOf25
  v24 := Try.zeroValue25
  i9 := by kernel_rfl }
open Go.RowKit Go.Lib in
/-- slices.Clone at []string: "Clone returns a copy of the slice. The elements are copied using assignment, so this is a shallow clone. The result may have additional unused capacity. The result preserves the nilness of s.": OF A SLICE THAT IS NOT nil IT RETURNS A SLICE THAT IS NOT nil, OF THE SAME ELEMENTS, IN MEMORY OF THE CALL's OWN: in the how-to's words (6f): 'w'.ownsRow B e 1 v' n cells': v' begins at the head of a row among the blocks from B on (B: the heap's size at the call), not frozen, whose first cells are the elements · 'Below B w w'': below B all is as it was. The capacity is whatever the run-time gives. 'zs': what the cells behind the slice's address hold; 'zs.take n': its elements. (LAID: no walk: one application.) -/
theorem Try.slices_Clone_string (b off n c : Nat) (zs : List ByteArray) (w : World) (hz : n ≤ zs.length) (hbig : n * 16 ≤ 140737488355328) (hc : ∀ j, j < zs.length → w.cell? ⟨b, off + j, none⟩ = some (.string (zs.getD j ByteArray.empty))) :
    Calls Try.prog 25 #[.slice (some ⟨b, off, none⟩) n c] w fun e w' => ∃ v', e = .returned v' ∧ w'.ownsRow w.heap.size 9 1 v' n ((zs.take n).map (Value.string)) ∧ v' ≠ .slice none 0 0 ∧ Below w.heap.size w w' := Any.slices_Clone_string Try.laysNm216 b off n c zs w hz hbig hc
open Go.RowKit Go.Lib in
/-- The same at nil: nil comes back; the world is as it was. (LAID: no walk: one application.) -/
theorem Try.slices_Clone_string_nil (n c : Nat) (w : World) :
    Calls Try.prog 25 #[.slice none n c] w fun e w' => e = .returned (.slice none 0 0) ∧ w' = w := Any.slices_Clone_string_nil Try.laysNm216 n c w
open Go.RowKit Go.Lib in
/-- The same at a slice of length 0 that is not nil, WHATEVER ITS ADDRESS (no cell is asked for): a slice that is not nil and owns nothing comes back. (LAID: no walk: one application.) -/
theorem Try.slices_Clone_string_zero (a : Addr) (c : Nat) (w : World) :
    Calls Try.prog 25 #[.slice (some a) 0 c] w fun e w' => ∃ v', e = .returned v' ∧ w'.ownsRow w.heap.size 9 1 v' 0 [] ∧ v' ≠ .slice none 0 0 ∧ Below w.heap.size w w' := Any.slices_Clone_string_zero Try.laysNm216 a c w
def Try.lays194_ren : Go.Shelf.Ren := ⟨fun | 194 => 35 | n => n, fun | 31 => 25 | 9 => 9 | 3 => 3 | 4 => 4 | 0 => 0 | n => n, fun | n => n⟩
theorem Try.lays194 : Go.Proofs.Lays.n194 Try.prog Try.lays194_ren := {
  mixed := by kernel_rfl
  f194 := Try.func35.trans (congrArg some (by kernel_rfl))
  t0 := Try.underlying0
  a0 := Try.isAgg0
  z0 := Try.sizeOf0
  v0 := Try.zeroValue0
  t3 := Try.underlying3
  a3 := Try.isAgg3
  z3 := Try.sizeOf3
  v3 := Try.zeroValue3
  t4 := Try.underlying4
  a4 := Try.isAgg4
  z4 := Try.sizeOf4
  v4 := Try.zeroValue4
  t9 := Try.underlying9
  a9 := Try.isAgg9
  z9 := Try.sizeOf9
  v9 := Try.zeroValue9
  t31 := Try.underlying25
  a31 := Try.isAgg25
  z31 := Try.sizeOf25
  v31 := Try.zeroValue25 }
open Go.RowKit Go.Lib Go.Sort in
/-- slices.Compact at []string, over an array: the library's two loops are walked. (LAID: no walk: one application.) -/
theorem Try.slices_Compact_string_arr (blk off cap : Nat) (d : Array (List UInt8)) (w : World) (hH : Holds encStr w blk off d) (hsz : d.size ≤ 9223372036854775807) (hcap : d.size ≤ cap) :
    Calls Try.prog 35 #[.slice (some ⟨blk, off, none⟩) d.size cap] w fun e w' => e = .returned (.slice (some ⟨blk, off, none⟩) (compactUpTo d d.size).length cap) ∧ ∃ q, w' = putRow encStr (Sort.ahead w q) blk off (compactUpTo d d.size ++ List.replicate (d.size - (compactUpTo d d.size).length) []).toArray := Any.slices_Compact_string_arr Try.lays194 blk off cap d w hH hsz hcap
open Go.RowKit Go.Lib Go.Sort in
/-- slices.Compact at []string: "Compact replaces consecutive runs of equal elements with a single copy. This is like the uniq command found on Unix. Compact modifies the contents of the slice s and returns the modified slice, which may have a smaller length. Compact zeroes the elements between the new length and the original length. The result preserves the nilness of s.": IT RETURNS THE SLICE CUT TO 'Lib.compact zs'; ITS CELLS HOLD 'Lib.compact zs', THEN ZERO VALUES up to the old length; all else is as it was, but for the count of draws. IN THE WORDS OF slices.Sort's CONTRACT ('Holds', 'putRow'): so the everyday 'slices.Sort(xs); xs = slices.Compact(xs)' goes from the one contract to the other. It asks 'zs.length ≤ cap' (every slice's: the reslicing 's[:k]' looks at it). Length 0, nil: '.._empty'. (LAID: no walk: one application.) -/
theorem Try.slices_Compact_string (blk off cap : Nat) (zs : List (List UInt8)) (w : World) (hH : Holds encStr w blk off zs.toArray) (hsz : zs.length ≤ 9223372036854775807) (hcap : zs.length ≤ cap) :
    Calls Try.prog 35 #[.slice (some ⟨blk, off, none⟩) zs.length cap] w fun e w' => e = .returned (.slice (some ⟨blk, off, none⟩) (Lib.compact zs).length cap) ∧ ∃ q, w' = putRow encStr (Sort.ahead w q) blk off (Lib.compact zs ++ List.replicate (zs.length - (Lib.compact zs).length) []).toArray := Any.slices_Compact_string Try.lays194 blk off cap zs w hH hsz hcap
open Go.RowKit Go.Lib Go.Sort in
/-- The same at a slice of length 0, a nil one too: it comes back as it is. (LAID: no walk: one application.) -/
theorem Try.slices_Compact_string_empty (a : Option Addr) (cap : Nat) (w : World) :
    Calls Try.prog 35 #[.slice a 0 cap] w fun e w' => e = .returned (.slice a 0 cap) ∧ w' = w := Any.slices_Compact_string_empty Try.lays194 a cap w
def Try.laysNm237_ren : Go.Shelf.Ren := ⟨fun | 37 => 53 | n => n, fun | 3 => 3 | 4 => 4 | n => n, fun | n => n⟩
theorem Try.laysNm237 : Go.Proofs.Lays2.n37 Try.prog Try.laysNm237_ren := {
  mixed := by kernel_rfl
  f37 := Try.func53.trans (congrArg some (by kernel_rfl))
  t3 := Try.underlying3
  a3 := Try.isAgg3
  z3 := Try.sizeOf3
  v3 := Try.zeroValue3
  t4 := Try.underlying4
  a4 := Try.isAgg4
  z4 := Try.sizeOf4
  v4 := Try.zeroValue4 }
open Go.RowKit Go.Lib in
/-- cmp.isNaN[int]: 'x != x': false. (LAID: no walk: one application.) -/
theorem Try.cmp_isNaN_int2 (x : Int) (w : World) :
    Calls Try.prog 53 #[.int .i64 x] w fun e w' => e = .returned (.bool false) ∧ w' = w := Any.cmp_isNaN_int2 Try.laysNm237 x w
open Go.RowKit Go.Lib Go.Sort in
/-- slices.Compact at []string, of an argument. (LAID: no walk: one application.) -/
theorem Try.slices_Compact_string_cells (b off n c : Nat) (Sx : Nat → ByteArray) (w : World) (hbig : n ≤ 9223372036854775807) (hcap : n ≤ c) (hc : ∀ i, i < n → w.cell? ⟨b, off + i, none⟩ = some (.string (Sx i))) (hf : ∀ j, j < n → w.frozen? ⟨b, off + j, none⟩ = false) :
    Calls Try.prog 35 #[.slice (some ⟨b, off, none⟩) n c] w fun e w' => e = .returned (.slice (some ⟨b, off, none⟩) (Lib.compact (Lib.strsOf Sx n)).length c) ∧ ∃ q, w' = (w.drewN q).setCells b off ((Lib.compact (Lib.strsOf Sx n) ++ List.replicate (n - (Lib.compact (Lib.strsOf Sx n)).length) []).map encStr) := Any.slices_Compact_string_cells Try.lays194 b off n c Sx w hbig hcap hc hf
open Go.RowKit Go.Sort in
/-- .. and plain. (LAID: no walk: one application.) -/
theorem Try.slices_Sort_string_none (p : Option Addr) (cap : Nat) (w : World) :
    Calls Try.prog 34 #[.slice p 0 cap] w fun e w' => e = .returned (.tuple #[]) ∧ w' = w := Any.slices_Sort_string_none Try.lays190 p cap w
def Try.laysSlN68_f54_ren : Go.Shelf.Ren := ⟨fun | 68 => 54 | n => n, fun | 23 => 2 | 4 => 4 | n => n, fun | n => n⟩
theorem Try.laysSlN68_f54 : Go.Proofs.SlLaysN.n68 Try.prog Try.laysSlN68_f54_ren := {
  mixed := by kernel_rfl
  f68 := ⟨Try.f54.name, by decide, Try.func54.trans (congrArg some (by kernel_rfl))⟩
  t4 := Try.underlying4
  a4 := Try.isAgg4
  z4 := Try.sizeOf4
  v4 := Try.zeroValue4
  t23 := Try.underlying2
  a23 := Try.isAgg2
  z23 := Try.sizeOf2
  v23 := Try.zeroValue2 }
open Go.RowKit Go.Lib in
/-- cmp.isNaN[int]: 'x != x': false. (LAID AT THE INSTANCE 'cmp.isNaN[int64]': no walk: one application.) -/
theorem Try.cmp_isNaN_int2_f54 (x : Int) (w : World) :
    Calls Try.prog 54 #[.int .i64 x] w fun e w' => e = .returned (.bool false) ∧ w' = w := AnyG.cmp_isNaN_int2 Try.laysSlN68_f54 x w
def Try.laysSlE041_f25_ren : Go.Shelf.Ren := ⟨fun | 41 => 25 | n => n, fun | 22 => 25 | 23 => 9 | 4 => 4 | n => n, fun | n => n⟩
theorem Try.laysSlE041_f25 : Go.Proofs.SlLaysE0.n41 Try.prog Try.laysSlE041_f25_ren := {
  mixed := by kernel_rfl
  f41 := ⟨Try.f25.name, by decide, Try.func25.trans (congrArg some (by kernel_rfl))⟩
  t4 := Try.underlying4
  a4 := Try.isAgg4
  z4 := Try.sizeOf4
  v4 := Try.zeroValue4
  t22 := Try.underlying25
  a22 := Try.isAgg25
  z22 := Try.sizeOf25
  v22 := Try.zeroValue25 }
open Go.RowKit Go.Lib in
/-- slices.Clone: "Clone returns a copy of the slice. The elements are copied using assignment, so this is a shallow clone. The result may have additional unused capacity. The result preserves the nilness of s.": OF A SLICE THAT IS NOT nil IT RETURNS A SLICE THAT IS NOT nil, OF THE SAME CELLS, IN MEMORY OF THE CALL's OWN ('ownsRow': the how-to's 6f); below the heap's size at the call all is as it was. (LAID AT THE INSTANCE 'slices.Clone[[]string,string]': no walk: one application.) -/
theorem Try.slices_Clone (i0 : TypeInfo) (z : Value) (size bytes : Nat) (hi : Try.prog.info? 9 = some i0) (hz0 : i0.zero = some z) (hz1 : i0.size = size) (hz2 : i0.bytes = bytes) (hzs : z.cells.size = size) (hsz : 0 < size) (z23 : ∀ w, (Go.sizeOf 9).run Try.prog w = .ok size w) (b off n c : Nat) (news : List Value) (w : World) (hl : news.length = n * size) (hn : n ≤ maxLen) (hbig : n * bytes ≤ 140737488355328) (hc : ∀ j u, news[j]? = some u → w.cell? ⟨b, off + j, none⟩ = some u) (h1 : ∀ u ∈ news, u.oneCell' = true) :
    Calls Try.prog 25 #[.slice (some ⟨b, off, none⟩) n c] w fun e w' => ∃ v', e = .returned v' ∧ w'.ownsRow w.heap.size 9 size v' n news ∧ v' ≠ .slice none 0 0 ∧ Below w.heap.size w w' := AnyE.slices_Clone Try.laysSlE041_f25 i0 z size bytes hi hz0 hz1 hz2 hzs hsz z23 b off n c news w hl hn hbig hc h1
open Go.RowKit Go.Lib in
/-- The same at nil: nil comes back; the world is as it was; nothing is asked of the element's type. (LAID AT THE INSTANCE 'slices.Clone[[]string,string]': no walk: one application.) -/
theorem Try.slices_Clone_nil (n c : Nat) (w : World) :
    Calls Try.prog 25 #[.slice none n c] w fun e w' => e = .returned (.slice none 0 0) ∧ w' = w := AnyE.slices_Clone_nil Try.laysSlE041_f25 n c w
end Go.Proofs
end
/- FxL -/
section
set_option linter.unusedVariables false
set_option linter.unusedSimpArgs false
namespace Go.Px
/-- a contract out of a quiet call -/
theorem KOk.quiet {c : Ctx} (k : CtxOk c) {f : FuncId} {fn : Func} (hf : c.P.funcs[f]? = some fn) (hb : fn.body.isSome = true) {args : List AV} {v : AV}
    (H : ∀ (F : Nat → List Value) (w : World) (A : List Value), FzW F w → VRs (fzm F) args A → ∃ z, Calls c.P f A.toArray w (fun e w' => e = .returned z ∧ w' = w) ∧ VR (fzm F) v z) : KOk c f args v := by
  intro F w A hF hA
  obtain ⟨z, hz, hv⟩ := H F w A hF hA
  have hnm : fn.name ≠ "runtime.NumGoroutine" := by simpa using k.names f fn hf
  obtain ⟨body, hbody⟩ := Option.isSome_iff_exists.1 hb
  refine ⟨.enter f A.toArray, w, by simp [callFunc, hf, hnm, hbody, Sem.run], ?_⟩
  refine (callsIn_wide.2 hz).mono fun e w' ⟨he, hw⟩ => ?_
  subst he; subst hw
  exact ⟨ExtW.refl w', F, fun _ _ _ e => e, fun _ _ => rfl, hF, hv⟩
end Go.Px
namespace Go.Px.Fx
open Go.Proofs
theorem sort34 : SortC cF 34 := fun blk cap ss w hH hB hs => Try.slices_Sort_string blk 0 cap ss w hH hB hs
theorem compact35 : CompactC cF 35 := fun blk cap ss w hH h1 h2 => Try.slices_Compact_string blk 0 cap ss w hH h1 h2
theorem k34n : KOk cF 34 [.nilsl] (.tup []) := KOk.quiet cF_ok Try.func34 rfl fun F w A hF hA => by
  simp only [VRs, VR] at hA
  obtain ⟨_, _, rfl, rfl, rfl⟩ := hA
  exact ⟨.tuple #[], Try.slices_Sort_string_none none 0 w, by simp only [VR, VRs]; exact ⟨[], rfl, rfl⟩⟩
theorem k35n : KOk cF 35 [.nilsl] .nilsl := KOk.quiet cF_ok Try.func35 rfl fun F w A hF hA => by
  simp only [VRs, VR] at hA
  obtain ⟨_, _, rfl, rfl, rfl⟩ := hA
  exact ⟨.slice none 0 0, Try.slices_Compact_string_empty none 0 w, by simp only [VR]⟩
end Go.Px.Fx
end
/- PxVf -/
section
set_option linter.unusedVariables false
set_option linter.unusedSimpArgs false
open Go.Sort Go.Proofs
namespace Go.Px
theorem own0 {X : Cx} {ρ : Map} {h : Heap} {w : World} (p : PI X ρ h w) {id t z n : Nat} {l : List AV} (hg : h.get id = .arr t z n l) (hn : n = 0) {x : Value} (hx : VR ρ (.own id n z) x) : x = .slice none 0 0 ∧ l = [] := by
  subst hn
  obtain ⟨h1, ⟨_, h2⟩ | ⟨h2, _⟩⟩ := p.hr.av id t z 0 l hg
  · simp only [VR] at hx
    rw [h2] at hx
    exact ⟨by have := hx.1; cases this; rfl, List.length_eq_zero_iff.1 (by omega)⟩
  · exact absurd rfl h2
/-- as a contract that says nothing of what is handed over -/
theorem KM.sort {c : Ctx} (k : CtxOk c) (hg0 : ∀ i r, c.g0.get i ≠ .gl r) {f : FuncId} {fn : Func} (hfn : c.P.funcs[f]? = some fn) (hb : fn.body.isSome = true) (hk : SortC c f) (h0 : KOk c f [.nilsl] (.tup [])) {n t : Nat} {ss : List (List UInt8)} (hsm : n ≤ 1000000) : KM c f [.arr t 1 n (strC ss)] [.own 0 n 1] (.tup []) [.arr t 1 n (strC (ss.mergeSort sLe))] := by
  refine ⟨Nat.le_refl _, rfl, rfl, rfl, rfl, rfl, fun ρ w A gx p hA => ?_⟩
  simp only [VRs] at hA
  obtain ⟨x, r0, hx, rfl, rfl⟩ := hA
  have hg : (hq 1 [AB.arr t 1 n (strC ss)]).get 0 = .arr t 1 n (strC ss) := rfl
  by_cases hn : n = 0
  · obtain ⟨rfl, hl⟩ := own0 p hg hn hx
    have hss : ss = [] := by simpa [strC] using hl
    subst hss
    obtain ⟨nx, w1, q1, q2⟩ := h0 ρ.F w [.slice none 0 0] p.hr.fz (by simp only [VRs, VR]; exact ⟨_, _, rfl, rfl, rfl⟩)
    rw [show ([] : List (List UInt8)).mergeSort sLe = [] by simp]
    refine ⟨nx, w1, q1, q2.mono fun z w' ⟨e1, F', e2, e3, e4, e5⟩ => ⟨⟨ρ.m, F', ρ.V⟩, p.frz e1 e2 e3 e4, ?_⟩⟩
    simp only [VR, VRs] at e5 ⊢
    exact e5
  · obtain ⟨B, C, rfl, hV⟩ := own_at p.hr hg hn hx
    obtain ⟨_, hH, hB, hlen, hnC⟩ := Good.texts (ss' := ss) (m := 0) (os := #[]) p.hr p.wf hg hV rfl rfl
    have hcalls := hk B C ss w hH hB (by omega)
    rw [hlen] at hcalls
    have hnm : fn.name ≠ "runtime.NumGoroutine" := by simpa using k.names f fn hfn
    obtain ⟨body, hbody⟩ := Option.isSome_iff_exists.1 hb
    refine ⟨.enter f _, w, by simp [callFunc, hfn, hnm, hbody, Sem.run]; rfl, ?_⟩
    refine (callsIn_wide.2 hcalls).mono fun e w' ⟨hz, q, os, hw'⟩ => ?_
    subst hz
    have gd := (Good.texts (ss' := ss.mergeSort sLe) p.hr p.wf hg hV (by simp) hw').1
    exact ⟨_, (p.good gd (ArrKeep.arr hg)).canon hg0 (bs := [.arr t 1 n (strC (ss.mergeSort sLe))]) ⟨by show Heap.get _ 0 = _; rw [Heap.get_put, if_pos rfl], trivial⟩ rfl rfl rfl, by simp only [VR, VRs]; exact ⟨[], rfl, rfl⟩⟩
theorem KM.compact {c : Ctx} (k : CtxOk c) (hg0 : ∀ i r, c.g0.get i ≠ .gl r) {f : FuncId} {fn : Func} (hfn : c.P.funcs[f]? = some fn) (hb : fn.body.isSome = true) (hk : CompactC c f) (h0 : KOk c f [.nilsl] .nilsl) {n t : Nat} {ss : List (List UInt8)} (hsm : n ≤ 1000000) : KM c f [.arr t 1 n (strC ss)] [.own 0 n 1] (.rsl (Lib.compact ss).length 1 (strC (Lib.compact ss))) [.no] := by
  refine ⟨Nat.le_refl _, rfl, rfl, rfl, rfl, rfl, fun ρ w A gx p hA => ?_⟩
  simp only [VRs] at hA
  obtain ⟨x, r0, hx, rfl, rfl⟩ := hA
  have hg : (hq 1 [AB.arr t 1 n (strC ss)]).get 0 = .arr t 1 n (strC ss) := rfl
  by_cases hn : n = 0
  · obtain ⟨rfl, hl⟩ := own0 p hg hn hx
    have hss : ss = [] := by simpa [strC] using hl
    subst hss
    obtain ⟨nx, w1, q1, q2⟩ := h0 ρ.F w [.slice none 0 0] p.hr.fz (by simp only [VRs, VR]; exact ⟨_, _, rfl, rfl, rfl⟩)
    refine ⟨nx, w1, q1, q2.mono fun z w' ⟨e1, F', e2, e3, e4, e5⟩ => ⟨_, (p.frz e1 e2 e3 e4).canon hg0 (bs := [.no]) ⟨trivial, trivial⟩ rfl rfl rfl, ?_⟩⟩
    simp only [VR] at e5 ⊢
    subst e5
    exact ⟨rfl, .inl ⟨rfl, .inl rfl⟩⟩
  · obtain ⟨B, C, rfl, hV⟩ := own_at p.hr hg hn hx
    obtain ⟨_, hH, hB, hlen, hnC⟩ := Good.texts (ss' := ss) (m := 0) (os := #[]) p.hr p.wf hg hV rfl rfl
    have hcalls := hk B C ss w hH (by omega) (by omega)
    rw [hlen] at hcalls
    have hnm : fn.name ≠ "runtime.NumGoroutine" := by simpa using k.names f fn hfn
    obtain ⟨body, hbody⟩ := Option.isSome_iff_exists.1 hb
    refine ⟨.enter f _, w, by simp [callFunc, hfn, hnm, hbody, Sem.run]; rfl, ?_⟩
    refine (callsIn_wide.2 hcalls).mono fun e w' ⟨hz, q, hw'⟩ => ?_
    subst hz
    have hcl := compact_le ss
    have hl2 : (Lib.compact ss ++ List.replicate (ss.length - (Lib.compact ss).length) []).length = ss.length := by simp; omega
    rw [hlen] at hl2
    have gd := (Good.texts (ss' := Lib.compact ss ++ List.replicate (n - (Lib.compact ss).length) []) (w' := w') (m := q) (os := #[]) p.hr p.wf hg hV (by rw [hlen] at hcl; simp; omega) (by rw [hw', grow_empty])).1
    have p2 := p.good gd (ArrKeep.arr hg)
    have hx2 := VR.mono gd.sub _ hx
    obtain ⟨e0, he0, er0⟩ := known_env (σ := ρ) (L := [(0, .own 0 n 1)]) (tm := #[.slice (some ⟨B, 0, none⟩) n C]) (sz := 1) rfl (fun s v q => by
      unfold lkO at q
      split at q
      · rename_i hs; cases q; rw [beqT hs]; exact hx2
      · cases q)
    obtain ⟨ρ2, e2, r1, r2, r3, r4, r5⟩ := Chg.frz (X := ⟨c, w, ρ.F, opnOf ρ, none, none, [], [], gx⟩) (h := (hq 1 [AB.arr t 1 n (strC ss)]).put 0 (.arr t 1 n (strC (Lib.compact ss ++ List.replicate (n - (Lib.compact ss).length) [])))) (rd := none) (m := []) 0 (id := 0) (ty := t) (z := 1) (n := n) (by rfl) (by rw [Heap.get_put, if_pos rfl]) ⟨.inl rfl, trivial⟩ rfl rfl (fun q => by cases q) rfl none ρ w' e0 ⟨#[.slice (some ⟨B, 0, none⟩) n C], []⟩ rfl p2 er0 he0 ⟨[], rfl, rfl⟩
    refine ⟨_, r2.canon hg0 (bs := [.no]) ⟨trivial, trivial⟩ rfl rfl rfl, ?_⟩
    refine low_ok _ rfl ?_
    have q1 := ev_ok r3 (.tmp 0)
    rw [r4.ev (x := .tmp 0) (v := .rsl n 1 (strC (Lib.compact ss ++ List.replicate (n - (Lib.compact ss).length) []))) (by show lkO _ 0 = _; unfold lkO; rw [Nat.beq_refl])] at q1
    have q1 : VR ρ2 (.rsl n 1 (strC (Lib.compact ss ++ List.replicate (n - (Lib.compact ss).length) []))) (.slice (some ⟨B, 0, none⟩) n C) := q1
    simp only [VR] at q1 ⊢
    refine ⟨by simp [strC], ?_⟩
    obtain ⟨_, ⟨q2, _⟩ | ⟨B2, o2, C2, L2, q2, q3, q4, q5⟩⟩ := q1
    · exact absurd q2 hn
    · cases q2
      refine .inr ⟨B, 0, C, L2.take (Lib.compact ss).length, rfl, by omega, ?_, fun j x hj => ?_⟩
      · rw [VRs.iff] at q4 ⊢
        have e3 : (strC (Lib.compact ss)).length = (Lib.compact ss).length := by simp [strC]
        have e4 : L2.length = n := by rw [← q4.1]; simp only [strC, List.length_map]; exact hl2
        refine ⟨by rw [e3, List.length_take]; omega, fun i u v hu hv => ?_⟩
        have hi' : i < (Lib.compact ss).length := by
          obtain ⟨hh, _⟩ := List.getElem?_eq_some_iff.1 hu
          omega
        refine q4.2 i u v ?_ ?_
        · unfold strC at hu ⊢
          rw [List.map_append, List.getElem?_append_left (by simpa using hi')]
          exact hu
        · rw [List.getElem?_take, if_pos hi'] at hv; exact hv
      · rw [List.getElem?_take] at hj
        split at hj
        · exact q5 j x hj
        · cases hj
theorem Chg.ownNil {X : Cx} {sz : Nat} {rd : Option Nat} {L : List (Nat × AV)} {h : Heap} {m : List Nat} (t : Nat) {id ty z n : Nat} {l : List AV} (hl : lkO L t = some (.own id n z)) (hg : h.get id = .arr ty z n l) (hn : n = 0) : Chg X sz rd L h ((t, .nilsl) :: L) h m := fun ro ρ w e a h1 p h3 he h4 => by
  refine ⟨ρ, e.set und t .nilsl, h1, p, ⟨h3.1, fun s => ?_⟩, he.set t _, h4⟩
  rw [get_set]
  by_cases hs : s = t
  · subst hs
    rw [if_pos rfl]
    have := h3.2 s
    rw [he s _ hl] at this
    simp only [VR]
    exact (own0 p hg hn this).1
  · rw [if_neg hs]; exact h3.2 s
end Go.Px
end
/- FxR -/
section
set_option linter.unusedVariables false
set_option linter.unusedSimpArgs false
set_option maxHeartbeats 4000000
namespace Go.Px.Fx
open Go.Proofs
attribute [local irreducible] Go.Px.KOk
noncomputable def ownV (c : Cl) : List Str := argV c.a ++ (bif isV c.o then [c.o] else [])
noncomputable def preV (l : List Cl) (j : Nat) : List Str := ((preL l).take j).flatMap ownV
theorem preV_succ {l : List Cl} {j : Nat} (h : j < (preL l).length) : preV l (j + 1) = preV l j ++ ownV ((preL l).getD j default) := by
  unfold preV
  rw [take_succ' h, List.flatMap_append]; simp
mutual
theorem pre_vars : ∀ c : Cl, c.pre.flatMap ownV = c.vars
  | .mk k n a o kids => by
    have := preL_vars kids
    simp only [Cl.pre, List.flatMap_cons, this, Cl.vars, ownV, Cl.a, Cl.o]
theorem preL_vars : ∀ l : List Cl, (preL l).flatMap ownV = varsL l
  | [] => rfl
  | c :: r => by
    have h1 := pre_vars c
    have h2 := preL_vars r
    simp only [preL, List.flatMap_append, h1, h2, varsL]
end
theorem preV_all (l : List Cl) : preV l (preL l).length = varsL l := by unfold preV; rw [List.take_length, preL_vars]
theorem preV_len (l : List Cl) (j : Nat) : (preV l j).length ≤ (varsL l).length := by
  have e : varsL l = preV l j ++ ((preL l).drop j).flatMap ownV := by
    unfold preV
    rw [← List.flatMap_append, List.take_append_drop, preL_vars]
  rw [e, List.length_append]; omega
mutual
theorem pre_ok : ∀ c : Cl, c.ok → ∀ d ∈ c.pre, d.ok
  | .mk k n a o kids, h, d, hd => by
    simp only [Cl.pre, List.mem_cons] at hd
    rcases hd with rfl | hd
    · exact h
    · exact preL_ok kids h.2.2.2 d hd
theorem preL_ok : ∀ l : List Cl, okL l → ∀ d ∈ preL l, d.ok
  | [], _, d, hd => by cases hd
  | c :: r, h, d, hd => by
    simp only [preL, List.mem_append] at hd
    rcases hd with hd | hd
    · exact pre_ok c h.1 d hd
    · exact preL_ok r h.2 d hd
end
mutual
theorem pre_cnt : ∀ c : Cl, ∀ d ∈ c.pre, d.a.length ≤ c.cnt
  | .mk k n a o kids, d, hd => by
    simp only [Cl.pre, List.mem_cons] at hd
    rcases hd with rfl | hd
    · show a.length ≤ 1 + a.length + cntL kids; omega
    · have := preL_cnt kids d hd
      show d.a.length ≤ 1 + a.length + cntL kids; omega
theorem preL_cnt : ∀ l : List Cl, ∀ d ∈ preL l, d.a.length ≤ cntL l
  | [], d, hd => by cases hd
  | c :: r, d, hd => by
    simp only [preL, List.mem_append] at hd
    simp only [cntL]
    rcases hd with hd | hd
    · have := pre_cnt c d hd; omega
    · have := preL_cnt r d hd; omega
end
theorem getD_mem {α : Type} [Inhabited α] {l : List α} {j : Nat} (h : j < l.length) : l.getD j default ∈ l := by
  rw [List.getD_eq_getElem?_getD, List.getElem?_eq_getElem h]; exact List.getElem_mem h
theorem flat_strC (l : List Str) : l.flatMap encS = strC l := by
  induction l with
  | nil => rfl
  | cons a l ih => rw [List.flatMap_cons, ih]; rfl
def VarsG (l : List Str) : List Str := Lib.compact (l.mergeSort sLe)
theorem k15 (l : List Cl) (hb : cntL l ≤ 10000) (hok : okL l) : KOk cF 15 [clsA l] (strsA (VarsG (varsL l))) := by
  have h1 := varsL_len l
  have h0 := k32 l
  refine KOk.of cF_ok eF.g Try.func15 rfl (Nat.le_of_ble_eq_true rfl) fun w F => ?_
  repeat' first | refine Go.seq ?_ | refine Go.region rfl ?_ | refine Ops.nil ?_ | refine Ops.val eF rfl rfl (by first | exact Want.no rfl | exact Want.tT rfl rfl rfl rfl | exact Want.fF rfl rfl rfl rfl) (by first | exact Hop.move rfl rfl | exact Hop.assign rfl rfl) ?_ | refine Ops.call eF rfl rfl (by first | exact Want.no rfl | exact Want.tT rfl rfl rfl rfl | exact Want.fF rfl rfl rfl rfl) rfl rfl rfl rfl (h0) rfl ?_ | refine Ops.rowAt eF 0 rfl rfl (by first | exact Want.no rfl | exact Want.tT rfl rfl rfl rfl | exact Want.fF rfl rfl rfl rfl) rfl (Hop.alloc eF rfl rfl rfl) ?_ | refine Go.block ?_
  refine Go.change (Chg.tokNew 1 9 1 rfl) ?_
  refine Go.change (Chg.cellOwn 0 1 rfl rfl) ?_
  refine Go.to (M := [(3, .ptr 0 0), (8, .fn (.func 48) [] [.rptr [clsA l]])]) ?_ ⟨rfl, rfl, trivial⟩
  refine Go.rangeK eF 2 rfl rfl rfl (it48 (cntL l + 1) l (by omega) (by omega)) rfl (fun j => hq 3 [.row ⟨25, 1, .leaf, [.own 1 (preV l j).length 1], none⟩, .arr 9 1 (preV l j).length ((preV l j).flatMap encS), .dfr true])
    (fun b => ChgE.cut _ rfl eF.g rfl ⟨.inr rfl, .inr rfl, .inr rfl, trivial⟩ ⟨low_row rfl rfl, trivial, trivial, trivial⟩) (fun j v hv => by rw [(item_at hv).2]; rfl) rfl (fun j v hv b2 => ?_) ?_
  · obtain ⟨hj, rfl⟩ := item_at hv
    have hc := preL_ok l hok _ (getD_mem hj)
    have hn := preL_cnt l _ (getD_mem hj)
    have hs := preV_succ hj
    have hp := preV_len l j
    have hp2 := preV_len l (j + 1)
    rw [Cl.ok_eq] at hc
    generalize (preL l).getD j default = c at *
    repeat' first | refine Go.region rfl ?_ | refine Ops.nil ?_ | refine Ops.rowAt eF 3 rfl rfl (by first | exact Want.no rfl | exact Want.tT rfl rfl rfl rfl | exact Want.fF rfl rfl rfl rfl) rfl (Hop.alloc eF rfl rfl rfl) ?_ | refine Ops.unit eF rfl (by first | exact Want.no rfl | exact Want.tT rfl rfl rfl rfl | exact Want.fF rfl rfl rfl rfl) (Hop.store eF rfl rfl rfl rfl rfl rfl) (ArrKeep.put rfl) ?_
    refine Go.bodyK (fun b3 => ?_)
    repeat' first | refine Go.seq ?_ | refine Go.region rfl ?_ | refine Ops.nil ?_ | refine Ops.val eF rfl rfl (by first | exact Want.no rfl | exact Want.tT rfl rfl rfl rfl | exact Want.fF rfl rfl rfl rfl) (by first | exact Hop.move rfl rfl | exact Hop.faP eF rfl rfl rfl rfl rfl rfl rfl | exact Hop.ldP eF rfl rfl rfl rfl rfl rfl rfl | exact Hop.lenD eF rfl rfl rfl rfl rfl rfl rfl) ?_ | refine Go.block ?_
    refine Go.toHQ (N := 4) (bs := [.row ⟨25, 1, .leaf, [.own 1 (preV l j).length 1], none⟩, .arr 9 1 (preV l j).length ((preV l j).flatMap encS), .dfr true, .row ⟨41, 5, .leaf, encF c, none⟩]) (L' := [(3, .ptr 0 0), (4, .ptr 3 0), (11, argsA c.a), (12, .int .i64 c.a.length), (13, .int .i64 0)]) ?_ rfl eF.g ⟨rfl, rfl, rfl, rfl, rfl, trivial⟩ rfl rfl ⟨.inr rfl, .inr rfl, .inr rfl, .inr rfl, trivial⟩ ⟨low_row rfl rfl, trivial, trivial, low_row rfl rfl, trivial⟩ rfl rfl
    refine Go.loop (fun i : Nat => [(3, .ptr 0 0), (4, .ptr 3 0), (11, argsA c.a), (12, .int .i64 c.a.length), (13, .int .i64 i)]) (fun i => hq 4 [.row ⟨25, 1, .leaf, [.own 1 ((preV l j).length + (argV (c.a.take i)).length) 1], none⟩, .arr 9 1 ((preV l j).length + (argV (c.a.take i)).length) ((preV l j).flatMap encS ++ (argV (c.a.take i)).flatMap encS), .dfr true, .row ⟨41, 5, .leaf, encF c, none⟩]) (fun i => i ≤ c.a.length) (fun i => c.a.length - i) 0 (by omega) ⟨rfl, rfl, rfl, rfl, rfl, trivial⟩ (by simp [argV]) (fun i hi ih => ?_)
    have hav : (argV (c.a.take i)).length ≤ i := Nat.le_trans (argV_len _) (by rw [List.length_take]; omega)
    have k1 := k33 (c.a.getD i default).x (hc.2.1 i)
    have k2 := k33 c.o hc.2.2.1
    repeat' first | refine Go.seq ?_ | refine Go.region rfl ?_ | refine Ops.nil ?_ | refine Ops.val eF rfl rfl (by first | exact Want.no rfl | exact Want.tT rfl rfl rfl rfl | exact Want.fF rfl rfl rfl rfl) (by first | exact Hop.move rfl rfl | exact Hop.lss rfl rfl rfl | exact Hop.add rfl rfl rfl (by omega) | exact Hop.faP eF rfl rfl rfl rfl rfl rfl rfl | exact Hop.idx eF rfl rfl rfl rfl rfl rfl rfl (fun _ => rfl) (by omega) | exact Hop.ldRG eF rfl rfl rfl rfl rfl | exact Hop.ldP eF rfl rfl rfl rfl rfl rfl rfl) ?_ | refine Ops.call eF rfl rfl (by first | exact Want.no rfl | exact Want.tT rfl rfl rfl rfl | exact Want.fF rfl rfl rfl rfl) rfl rfl rfl rfl (k1) rfl ?_ | refine Ops.call eF rfl rfl (by first | exact Want.no rfl | exact Want.tT rfl rfl rfl rfl | exact Want.fF rfl rfl rfl rfl) rfl rfl rfl rfl (k2) rfl ?_ | refine Ops.data eF rfl rfl (by first | exact Want.no rfl | exact Want.tT rfl rfl rfl rfl | exact Want.fF rfl rfl rfl rfl) rfl (Hop.bslice eF rfl rfl rfl rfl rfl rfl rfl rfl rfl rfl rfl) rfl rfl ?_ | refine Ops.appendE eF rfl rfl (by first | exact Want.no rfl | exact Want.tT rfl rfl rfl rfl | exact Want.fF rfl rfl rfl rfl) rfl rfl rfl rfl rfl rfl rfl rfl rfl rfl rfl rfl rfl rfl rfl rfl (by repeat' first | exact trivial | refine And.intro ?_ ?_ | exact .inr trivial | exact .inr (ind_row rfl rfl) | exact .inr rfl | exact .inl rfl | exact .inr (hindL _ _)) rfl rfl rfl rfl rfl (by first | rfl | exact ones_flat (fun _ => rfl) _) (by omega) ?_ | refine Ops.rowAt eF 4 rfl rfl (by first | exact Want.no rfl | exact Want.tT rfl rfl rfl rfl | exact Want.fF rfl rfl rfl rfl) rfl (Hop.alloc eF rfl rfl rfl) ?_ | refine Ops.unit eF rfl (by first | exact Want.no rfl | exact Want.tT rfl rfl rfl rfl | exact Want.fF rfl rfl rfl rfl) (Hop.store eF rfl rfl rfl rfl rfl rfl) (ArrKeep.put rfl) ?_ | refine Go.condPt rfl (fun _ => ?_) (fun _ => ?_) | refine Go.block ?_ | refine Go.unblk ?_ | refine Go.skip ?_ | refine Go.exit rfl ?_
    all_goals try simp only [Int.toNat_natCast] at *
    · rename_i q1 q2
      have g := ih (i + 1) (by omega) (by omega)
      simp only [argV_succ (show i < c.a.length by omega), isV, bd_of q2, cond_true, List.length_append, List.length_cons, List.length_nil, Nat.zero_add, List.flatMap_append, List.flatMap_cons, List.flatMap_nil, List.append_nil, ← Nat.add_assoc, ← List.append_assoc] at g
      exact Go.toQ g rfl eF.g ⟨rfl, rfl, rfl, rfl, rfl, trivial⟩ rfl rfl ⟨.inr rfl, .inr rfl, .inr rfl, .inr rfl, trivial⟩ ⟨low_row rfl rfl, trivial, trivial, low_row rfl rfl, trivial⟩ rfl rfl
    · rename_i q1 q2
      have g := ih (i + 1) (by omega) (by omega)
      simp only [argV_succ (show i < c.a.length by omega), isV, bd_no q2, cond_false, List.append_nil] at g
      exact Go.toQ g rfl eF.g ⟨rfl, rfl, rfl, rfl, rfl, trivial⟩ rfl rfl ⟨.inr rfl, .inr rfl, .inr rfl, .inr rfl, trivial⟩ ⟨low_row rfl rfl, trivial, trivial, low_row rfl rfl, trivial⟩ rfl rfl
    · rename_i q1 q2
      have ei : c.a.take i = c.a := by rw [show i = c.a.length by omega, List.take_length]
      have e1 : (preV l (j + 1)).length = (preV l j).length + (argV (c.a.take i)).length + 1 := by simp [hs, ownV, isV, bd_of q2, ei]; omega
      have e2 : (preV l (j + 1)).flatMap encS = (preV l j).flatMap encS ++ (argV (c.a.take i)).flatMap encS ++ encS c.o := by simp [hs, ownV, isV, bd_of q2, ei]
      refine Go.nextK ?_
      rw [e1, e2]
      exact ChgE.cut _ rfl eF.g rfl ⟨.inr rfl, .inr rfl, .inr rfl, trivial⟩ ⟨low_row rfl rfl, trivial, trivial, trivial⟩
    · rename_i q1 q2
      have ei : c.a.take i = c.a := by rw [show i = c.a.length by omega, List.take_length]
      have e1 : (preV l (j + 1)).length = (preV l j).length + (argV (c.a.take i)).length := by simp [hs, ownV, isV, bd_no q2, ei]
      have e2 : (preV l (j + 1)).flatMap encS = (preV l j).flatMap encS ++ (argV (c.a.take i)).flatMap encS := by simp [hs, ownV, isV, bd_no q2, ei]
      refine Go.nextK ?_
      rw [e1, e2]
      exact ChgE.cut _ rfl eF.g rfl ⟨.inr rfl, .inr rfl, .inr rfl, trivial⟩ ⟨low_row rfl rfl, trivial, trivial, trivial⟩
  · rw [List.length_map, preV_all]
    by_cases hz : (varsL l).length = 0
    · have hz2 : varsL l = [] := List.length_eq_zero_iff.1 hz
      rw [hz2]
      have kn1 := k34n
      have kn2 := k35n
      repeat' first | refine Go.seq ?_ | refine Go.region rfl ?_ | refine Ops.nil ?_ | refine Ops.change (Chg.ownNil 34 (id := 1) rfl rfl rfl) ?_ | refine Ops.change (Chg.ownNil 36 (id := 1) rfl rfl rfl) ?_ | refine Ops.weakAt eF 2 rfl rfl (by first | exact Want.no rfl | exact Want.tT rfl rfl rfl rfl | exact Want.fF rfl rfl rfl rfl) (Hop.assign rfl rfl) (weak_nil 1) ?_ | refine Ops.val eF rfl rfl (by first | exact Want.no rfl | exact Want.tT rfl rfl rfl rfl | exact Want.fF rfl rfl rfl rfl) (by first | exact Hop.ldP eF rfl rfl rfl rfl rfl rfl rfl) ?_ | refine Ops.call eF rfl rfl (by first | exact Want.no rfl | exact Want.tT rfl rfl rfl rfl | exact Want.fF rfl rfl rfl rfl) rfl rfl rfl rfl (kn1) rfl ?_ | refine Ops.call eF rfl rfl (by first | exact Want.no rfl | exact Want.tT rfl rfl rfl rfl | exact Want.fF rfl rfl rfl rfl) rfl rfl rfl rfl (kn2) rfl ?_ | refine Go.unblk ?_ | refine Go.retFm rfl rfl ?_ rfl
      have e : VarsG [] = [] := by simp [VarsG, Lib.compact, Lib.compactUpTo]
      rw [e]; rfl
    · rw [flat_strC]
      repeat' first | refine Go.seq ?_ | refine Go.region rfl ?_ | refine Ops.nil ?_ | refine Ops.sortS (ss := varsL l) eF rfl rfl (by first | exact Want.no rfl | exact Want.tT rfl rfl rfl rfl | exact Want.fF rfl rfl rfl rfl) rfl rfl rfl rfl Try.func34 rfl rfl hz (by omega) sort34 ?_ | refine Ops.compactS (ss := (varsL l).mergeSort sLe) eF rfl rfl (by first | exact Want.no rfl | exact Want.tT rfl rfl rfl rfl | exact Want.fF rfl rfl rfl rfl) rfl rfl rfl rfl rfl Try.func35 rfl rfl hz (by omega) compact35 (fun _ => (by repeat' first | exact trivial | refine And.intro ?_ ?_ | exact .inr trivial | exact .inr (ind_row rfl rfl) | exact .inr rfl | exact .inl rfl)) rfl rfl (by simp) rfl (fun h' hh => ?_) | refine Ops.val eF rfl rfl (by first | exact Want.no rfl | exact Want.tT rfl rfl rfl rfl | exact Want.fF rfl rfl rfl rfl) (by first | exact Hop.assign rfl rfl | exact Hop.ldP eF rfl rfl rfl rfl rfl rfl rfl) ?_ | refine Go.unblk ?_
      subst hh
      repeat' first | refine Go.retFm rfl rfl ?_ rfl
      simp only [strsA, VarsG, dsl, flat_strC]; rfl
end Go.Px.Fx
end
/- FxO -/
section
set_option linter.unusedVariables false
set_option linter.unusedSimpArgs false
set_option maxHeartbeats 4000000
namespace Go.Px.Fx
open Go.Proofs
attribute [local irreducible] Go.Px.KOk
theorem k52s (s : Str) : KOk cF 52 [sA s] (.bool false) := by
  refine KOk.of cF_ok eF.g Try.func52 rfl (Nat.le_of_ble_eq_true rfl) fun w F => ?_
  repeat' first | refine Go.seq ?_ | refine Go.region rfl ?_ | refine Ops.nil ?_ | refine Ops.val eF rfl rfl (by first | exact Want.no rfl | exact Want.tT rfl rfl rfl rfl | exact Want.fF rfl rfl rfl rfl) (by first | exact Hop.move rfl rfl | exact Hop.assign rfl rfl | exact Hop.neS rfl rfl rfl) ?_ | refine Go.retF rfl ?_ rfl
  all_goals (show AV.bool (!bd (s = s)) = _; rw [bd_of rfl]; rfl)
theorem k37 (s : Str) : KOk cF 37 [sA s] (.bool false) := by
  refine KOk.of cF_ok eF.g Try.func37 rfl (Nat.le_of_ble_eq_true rfl) fun w F => ?_
  repeat' first | refine Go.seq ?_ | refine Go.region rfl ?_ | refine Ops.nil ?_ | refine Ops.val eF rfl rfl (by first | exact Want.no rfl | exact Want.tT rfl rfl rfl rfl | exact Want.fF rfl rfl rfl rfl) (by first | exact Hop.move rfl rfl | exact Hop.assign rfl rfl | exact Hop.neS rfl rfl rfl) ?_ | refine Go.retF rfl ?_ rfl
  all_goals (show AV.bool (!bd (s = s)) = _; rw [bd_of rfl]; rfl)
theorem k36s (a b : Str) : KOk cF 36 [sA a, sA b] (.bool (bd (a < b))) := by
  refine KOk.of cF_ok eF.g Try.func36 rfl (Nat.le_of_ble_eq_true rfl) fun w F => ?_
  repeat' first | refine Go.seq ?_ | refine Go.region rfl ?_ | refine Ops.nil ?_ | refine Ops.val eF rfl rfl (by first | exact Want.no rfl | exact Want.tT rfl rfl rfl rfl | exact Want.fF rfl rfl rfl rfl) (by first | exact Hop.move rfl rfl | exact Hop.assign rfl rfl | exact Hop.pickF rfl rfl rfl | exact Hop.ltS rfl rfl rfl) ?_ | refine Ops.skip rfl rfl (by first | exact Want.fT rfl rfl rfl rfl | exact Want.tF rfl rfl rfl rfl | exact Want.und rfl rfl rfl rfl) ?_ | refine Ops.call eF rfl rfl (by first | exact Want.no rfl | exact Want.tT rfl rfl rfl rfl | exact Want.fF rfl rfl rfl rfl) rfl rfl rfl rfl (k52s _) rfl ?_ | refine Go.retF rfl ?_ rfl
  all_goals rfl
/-- where the first text stands that is not ahead -/
noncomputable def fstN (l : List Str) (x : Str) : Nat := match l with
  | [] => 0
  | y :: l => bif bd (y < x) then fstN l x + 1 else 0
theorem fst_at {x : Str} : ∀ {l : List Str} {i : Nat}, i ≤ l.length → (∀ j, j < i → l.getD j default < x) → (i < l.length → ¬ l.getD i default < x) → fstN l x = i
  | [], i, h, _, _ => by simp at h; simp [fstN, h]
  | y :: l, 0, _, _, h => by
    have h : ¬ y < x := by simpa using h (by simp)
    unfold fstN
    rw [bd_no h]; rfl
  | y :: l, i + 1, h1, h2, h3 => by
    have hy : y < x := by simpa using h2 0 (by omega)
    have := fst_at (x := x) (l := l) (i := i) (by simpa using h1) (fun j hj => by simpa using h2 (j + 1) (by omega)) (fun hk => by simpa using h3 (by simpa using hk))
    unfold fstN
    rw [bd_of hy, cond_true, this]
/-- in order, each once -/
def SrtS (l : List Str) : Prop := ∀ i j, i < j → j < l.length → l.getD i default < l.getD j default
theorem k16 (l : List Str) (x : Str) (hl : l.length ≤ 2000000) (hs : SrtS l) : KOk cF 16 [strsA l, sA x] (.tup [.int .i64 (fstN l x), .bool (bd (fstN l x < l.length ∧ l.getD (fstN l x) default = x))]) := by
  refine KOk.of cF_ok eF.g Try.func16 rfl (Nat.le_of_ble_eq_true rfl) fun w F => ?_
  repeat' first | refine Go.seq ?_ | refine Go.region rfl ?_ | refine Ops.nil ?_ | refine Ops.val eF rfl rfl (by first | exact Want.no rfl | exact Want.tT rfl rfl rfl rfl | exact Want.fF rfl rfl rfl rfl) (by first | exact Hop.move rfl rfl | exact Hop.assign rfl rfl | exact Hop.lenD eF rfl rfl rfl rfl rfl rfl rfl) ?_ | refine Go.block ?_
  refine Go.loop (fun p : Nat × Nat => [(0, strsA l), (1, sA x), (6, .int .i64 l.length), (7, .int .i64 p.1), (8, .int .i64 p.2)]) (fun _ => hS) (fun p => p.1 ≤ p.2 ∧ p.2 ≤ l.length ∧ (∀ j, j < p.1 → l.getD j default < x) ∧ (∀ j, p.2 ≤ j → j < l.length → ¬ l.getD j default < x)) (fun p => p.2 - p.1) (0, l.length) ⟨Nat.zero_le _, Nat.le_refl _, fun j hj => by omega, fun j h1 h2 => by omega⟩ ⟨rfl, rfl, rfl, rfl, rfl, trivial⟩ rfl (fun p hP ih => ?_)
  obtain ⟨a, b⟩ := p
  obtain ⟨h1, h2, h3, h4⟩ := hP
  have h1 : a ≤ b := h1
  have h2 : b ≤ l.length := h2
  have eh : ((a : Int) + (b : Int)) / 2 = ((a + b) / 2 : Nat) := by omega
  have em : (((a : Int) + (b : Int)) / 2).toNat = (a + b) / 2 := by omega
  repeat' first | refine Go.seq ?_ | refine Go.region rfl ?_ | refine Ops.nil ?_ | refine Ops.val eF rfl rfl (by first | exact Want.no rfl | exact Want.tT rfl rfl rfl rfl | exact Want.fF rfl rfl rfl rfl) (by first | exact Hop.move rfl rfl | exact Hop.assign rfl rfl | exact Hop.pickT rfl rfl rfl | exact Hop.pickF rfl rfl rfl | exact Hop.lss rfl rfl rfl | exact Hop.eqS rfl rfl rfl | exact Hop.add rfl rfl rfl (by omega) | exact Hop.half rfl rfl rfl (by omega) | exact Hop.conv eF rfl rfl rfl rfl rfl (wr_i64 (by omega)) | exact Hop.conv eF rfl rfl rfl rfl rfl (wr_u64 (by omega)) | exact Hop.idx eF rfl rfl rfl rfl rfl rfl rfl (fun _ => rfl) (by omega) | exact Hop.ldR eF rfl rfl rfl rfl rfl) ?_ | refine Ops.skip rfl rfl (by first | exact Want.fT rfl rfl rfl rfl | exact Want.tF rfl rfl rfl rfl | exact Want.und rfl rfl rfl rfl) ?_ | refine Ops.gP rfl rfl (fun _ => ?_) (fun _ => ?_) | refine Ops.call eF rfl rfl (by first | exact Want.no rfl | exact Want.tT rfl rfl rfl rfl | exact Want.fF rfl rfl rfl rfl) rfl rfl rfl rfl (k36s _ _) rfl ?_ | refine Ops.call eF rfl rfl (by first | exact Want.no rfl | exact Want.tT rfl rfl rfl rfl | exact Want.fF rfl rfl rfl rfl) rfl rfl rfl rfl (k37 _) rfl ?_ | refine Go.condPt rfl (fun _ => ?_) (fun _ => ?_) | refine Go.block ?_ | refine Go.unblk ?_ | refine Go.skip ?_ | refine Go.exit rfl ?_ | refine Go.retF rfl ?_ rfl
  all_goals try simp only [Int.toNat_natCast] at *
  case refine_1.refine_1 =>
    rename_i q1 q2
    rw [em] at q2
    refine Go.to (ih ((a + b) / 2 + 1, b) ⟨by show (a + b) / 2 + 1 ≤ b; omega, h2, fun j hj => ?_, h4⟩ (by show b - ((a + b) / 2 + 1) < b - a; omega)) ⟨rfl, rfl, rfl, ?_, rfl, trivial⟩
    · have hj : j < (a + b) / 2 + 1 := hj
      rcases lt_succ_cases hj with h | rfl
      · exact List.lt_trans (hs j _ h (by omega)) q2
      · exact q2
    · show some (AV.int .i64 _) = some (AV.int .i64 _)
      congr 2
  case refine_1.refine_2 =>
    rename_i q1 q2
    rw [em] at q2
    refine Go.to (ih (a, (a + b) / 2) ⟨by show a ≤ (a + b) / 2; omega, by show (a + b) / 2 ≤ l.length; omega, h3, fun j h5 h6 h7 => ?_⟩ (by show (a + b) / 2 - a < b - a; omega)) ⟨rfl, rfl, rfl, rfl, ?_, trivial⟩
    · have h5 : (a + b) / 2 ≤ j := h5
      rcases Nat.lt_or_ge ((a + b) / 2) j with h | h
      · exact q2 (List.lt_trans (hs _ _ h h6) h7)
      · have : j = (a + b) / 2 := by omega
        subst this; exact q2 h7
    · show some (AV.int .i64 _) = some (AV.int .i64 _)
      congr 2
  all_goals
    have e : fstN l x = a := fst_at (by omega) h3 (fun q => h4 a (by omega) q)
    rw [e]
    first
    | (rw [bd_of ⟨by omega, by assumption⟩]; rfl)
    | (rw [bd_no (fun q => by first | exact absurd q.2 (by assumption) | (have := q.1; omega))]; rfl)
end Go.Px.Fx
end
/- FxT -/
section
set_option linter.unusedVariables false
set_option linter.unusedSimpArgs false
namespace Go.Px.Fx
open Go.Proofs
theorem s_lt_of {x y : Str} (h : ¬ y < x) (hn : x ≠ y) : x < y := by
  by_cases q : x < y
  · exact q
  · exact absurd (List.le_antisymm (show x ≤ y from h) (show y ≤ x from q)) hn
theorem s_le_lt {x y z : Str} (h1 : ¬ y < x) (h2 : y < z) : x < z := by
  by_cases q : x = y
  · rw [q]; exact h2
  · exact List.lt_trans (s_lt_of h1 q) h2
theorem s_ne {x y : Str} (h : x < y) : x ≠ y := fun e => by subst e; exact List.lt_irrefl _ h
/-- in order, each once -/
abbrev Srt (l : List Str) : Prop := l.Pairwise (· < ·)
theorem srt_eq : ∀ {a b : List Str}, Srt a → Srt b → (∀ x, x ∈ a ↔ x ∈ b) → a = b
  | [], [], _, _, _ => rfl
  | [], y :: b, _, _, h => by have := (h y).2 List.mem_cons_self; cases this
  | x :: a, [], _, _, h => by have := (h x).1 List.mem_cons_self; cases this
  | x :: a, y :: b, ha, hb, h => by
    obtain ⟨a1, a2⟩ := List.pairwise_cons.1 ha
    obtain ⟨b1, b2⟩ := List.pairwise_cons.1 hb
    have hxy : x = y := by
      rcases List.mem_cons.1 ((h x).1 List.mem_cons_self) with q | q
      · exact q
      · rcases List.mem_cons.1 ((h y).2 List.mem_cons_self) with r | r
        · exact r.symm
        · exact absurd (List.lt_trans (b1 x q) (a1 y r)) (List.lt_irrefl _)
    subst hxy
    congr 1
    refine srt_eq a2 b2 fun z => ⟨fun hz => ?_, fun hz => ?_⟩
    · rcases List.mem_cons.1 ((h z).1 (List.mem_cons_of_mem _ hz)) with q | q
      · exact absurd q (Ne.symm (s_ne (a1 z hz)))
      · exact q
    · rcases List.mem_cons.1 ((h z).2 (List.mem_cons_of_mem _ hz)) with q | q
      · exact absurd q (Ne.symm (s_ne (b1 z hz)))
      · exact q
theorem getD_eq {l : List Str} {i : Nat} (h : i < l.length) : l.getD i default = l[i] := by
  rw [List.getD_eq_getElem?_getD, List.getElem?_eq_getElem h]; rfl
theorem Srt.at_ {l : List Str} (h : Srt l) : SrtS l := fun i j hij hj => by
  rw [getD_eq hj, getD_eq (by omega)]
  exact List.pairwise_iff_getElem.1 h i j (by omega) hj hij
/-! ## put in its place -/
theorem place_spec (l : List Str) (x : Str) : ∀ k, k ≤ l.length → (∀ j, placeN l x k ≤ j → j < k → x < l.getD j default) ∧ (0 < placeN l x k → ¬ x < l.getD (placeN l x k - 1) default)
  | 0, _ => ⟨fun j h1 h2 => by omega, fun h => by simp [placeN] at h⟩
  | k + 1, hk => by
    obtain ⟨i1, i2⟩ := place_spec l x k (by omega)
    unfold placeN
    by_cases q : x < l.getD k default
    · rw [bd_of q, cond_true]
      refine ⟨fun j h1 h2 => ?_, i2⟩
      rcases Nat.lt_or_ge j k with r | r
      · exact i1 j h1 r
      · rw [show j = k by omega]; exact q
    · rw [bd_no q, cond_false]
      exact ⟨fun j h1 h2 => by omega, fun _ => by rw [Nat.add_sub_cancel]; exact q⟩
theorem putS_mem (l : List Str) (x y : Str) : y ∈ putS l x ↔ y = x ∨ y ∈ l := by
  unfold putS
  by_cases q : x ∈ l
  · rw [bd_of q, cond_true]
    exact ⟨.inr, fun h => h.elim (fun e => e ▸ q) id⟩
  · rw [bd_no q, cond_false]
    simp only [List.mem_append, List.mem_singleton]
    constructor
    · rintro ((h | h) | h)
      · exact .inr (List.mem_of_mem_take h)
      · exact .inl h
      · exact .inr (List.mem_of_mem_drop h)
    · rintro (h | h)
      · exact .inl (.inr h)
      · rw [← List.take_append_drop (placeN l x l.length) l, List.mem_append] at h
        rcases h with h | h
        · exact .inl (.inl h)
        · exact .inr h
theorem putS_srt {l : List Str} (h : Srt l) (x : Str) : Srt (putS l x) := by
  unfold putS
  by_cases q : x ∈ l
  · rw [bd_of q]; exact h
  · rw [bd_no q, cond_false]
    obtain ⟨p1, p2⟩ := place_spec l x l.length (Nat.le_refl _)
    have hle := placeN_le l x l.length
    generalize placeN l x l.length = p at *
    have hsp := h
    rw [← List.take_append_drop p l] at hsp
    obtain ⟨t1, t2, t3⟩ := List.pairwise_append.1 hsp
    have below : ∀ y ∈ l.take p, y < x := fun y hy => by
      obtain ⟨i, hi, e⟩ := List.getElem_of_mem hy
      rw [List.length_take] at hi
      have hi1 : i < p := by omega
      have hl : i < l.length := by omega
      rw [List.getElem_take] at e
      have hp : p - 1 < l.length := by omega
      have hge := p2 (by omega)
      rw [getD_eq hp] at hge
      have hle' : ¬ l[p - 1] < l[i] := by
        rcases Nat.lt_or_ge i (p - 1) with r | r
        · have := List.pairwise_iff_getElem.1 h i (p - 1) hl hp r
          exact fun h2 => List.lt_irrefl _ (List.lt_trans this h2)
        · have e2 : i = p - 1 := by omega
          subst e2; exact List.lt_irrefl _
      have hne : l[p - 1] ≠ x := fun e2 => q (e2 ▸ List.getElem_mem hp)
      rw [← e]
      exact s_le_lt hle' (s_lt_of hge hne)
    have above : ∀ y ∈ l.drop p, x < y := fun y hy => by
      obtain ⟨i, hi, e⟩ := List.getElem_of_mem hy
      rw [List.length_drop] at hi
      rw [List.getElem_drop] at e
      have := p1 (p + i) (by omega) (by omega)
      rw [getD_eq (by omega), e] at this
      exact this
    refine List.pairwise_append.2 ⟨List.pairwise_append.2 ⟨t1, List.pairwise_singleton _ _, fun a ha b hb => ?_⟩, t2, fun a ha b hb => ?_⟩
    · rw [List.mem_singleton.1 hb]; exact below a ha
    · rcases List.mem_append.1 ha with ha | ha
      · exact t3 a ha b hb
      · rw [List.mem_singleton.1 ha]; exact above b hb
theorem putN_spec (l : List Str) : ∀ n, n ≤ l.length → Srt (putN l n) ∧ ∀ y, y ∈ putN l n ↔ y ∈ l.take n
  | 0, _ => ⟨List.Pairwise.nil, fun y => by simp [putN]⟩
  | n + 1, hn => by
    obtain ⟨i1, i2⟩ := putN_spec l n (by omega)
    refine ⟨putS_srt i1 _, fun y => ?_⟩
    show y ∈ putS (putN l n) (l.getD n default) ↔ _
    rw [putS_mem, i2, take_succ' (show n < l.length by omega), List.mem_append, List.mem_singleton]
    exact Or.comm
/-! ## sorted, what stands twice struck -/
theorem keeps_iff (d : Array Str) (j : Nat) : Lib.keeps d j = true ↔ j = 0 ∨ d[j]! ≠ d[j - 1]! := by
  unfold Lib.keeps; simp
theorem compact_mem (zs : List Str) (y : Str) : y ∈ Lib.compact zs ↔ y ∈ zs := by
  unfold Lib.compact Lib.compactUpTo
  simp only [List.mem_map, List.mem_filter, List.mem_range]
  have hg : ∀ j, j < zs.length → zs.toArray[j]! = zs.getD j default := fun j hj => by
    rw [getD_eq hj]; simp [hj]
  constructor
  · rintro ⟨j, ⟨hj, _⟩, e⟩
    rw [hg j hj, getD_eq hj] at e
    rw [← e]; exact List.getElem_mem hj
  · intro hy
    obtain ⟨i, hi, e⟩ := List.getElem_of_mem hy
    have key : ∀ n, n < zs.length → zs.getD n default = y → ∃ j, (j < zs.length ∧ Lib.keeps zs.toArray j = true) ∧ zs.toArray[j]! = y := by
      intro n
      induction n with
      | zero => exact fun h0 e0 => ⟨0, ⟨h0, by rw [keeps_iff]; exact .inl rfl⟩, by rw [hg 0 h0]; exact e0⟩
      | succ n ih =>
        intro hn en
        by_cases q : zs.getD n default = y
        · exact ih (by omega) q
        · refine ⟨n + 1, ⟨hn, ?_⟩, by rw [hg _ hn]; exact en⟩
          rw [keeps_iff]
          right
          rw [hg _ hn, Nat.add_sub_cancel, hg _ (by omega), en]
          exact fun e2 => q e2.symm
    exact key i hi (by rw [getD_eq hi]; exact e)
theorem compact_srt {zs : List Str} (h : zs.Pairwise (fun a b => ¬ b < a)) : Srt (Lib.compact zs) := by
  unfold Lib.compact Lib.compactUpTo Srt
  rw [List.pairwise_map]
  refine List.Pairwise.imp_of_mem (R := (· < ·)) ?_ (List.Pairwise.filter _ List.pairwise_lt_range)
  intro i j hi hj hij
  simp only [List.mem_filter, List.mem_range] at hi hj
  have hg : ∀ j, j < zs.length → zs.toArray[j]! = zs.getD j default := fun j hj => by
    rw [getD_eq hj]; simp [hj]
  rw [keeps_iff] at hj
  have hk := hj.2.resolve_left (by omega)
  rw [hg j hj.1, hg (j - 1) (by omega), getD_eq hj.1, getD_eq (by omega)] at hk
  rw [hg i hi.1, hg j hj.1, getD_eq hi.1, getD_eq hj.1]
  have h1 : ¬ zs[j] < zs[j - 1] := List.pairwise_iff_getElem.1 h (j - 1) j (by omega) hj.1 (by omega)
  have h2 : zs[j - 1] < zs[j] := s_lt_of h1 (Ne.symm hk)
  rcases Nat.lt_or_ge i (j - 1) with q | q
  · exact s_le_lt (List.pairwise_iff_getElem.1 h i (j - 1) hi.1 (by omega) q) h2
  · have e : i = j - 1 := by omega
    subst e; exact h2
theorem varsG_spec (l : List Str) : Srt (VarsG l) ∧ ∀ y, y ∈ VarsG l ↔ y ∈ l := by
  unfold VarsG
  refine ⟨compact_srt ?_, fun y => by rw [compact_mem, List.mem_mergeSort]⟩
  have := List.pairwise_mergeSort (le := sLe) (fun a b c h1 h2 => by
    unfold sLe at *
    simp only [decide_eq_true_eq] at *
    exact List.le_trans h1 h2) (fun a b => by
    unfold sLe
    simp only [Bool.or_eq_true, decide_eq_true_eq]
    exact List.le_total a b) l
  refine this.imp fun {a b} q => ?_
  unfold sLe at q
  exact of_decide_eq_true q
/-- both ways -/
theorem vars_eq (l : List Str) : VarsG l = putN l l.length := by
  obtain ⟨a1, a2⟩ := varsG_spec l
  obtain ⟨b1, b2⟩ := putN_spec l l.length (Nat.le_refl _)
  refine srt_eq a1 b1 fun y => ?_
  rw [a2, b2, List.take_length]
end Go.Px.Fx
end
/- PxVg -/
section
set_option linter.unusedVariables false
set_option linter.unusedSimpArgs false
namespace Go.Px
theorem flat_rep {α : Type} {z : Nat} {enc : α → List AV} (he : ∀ a, (enc a).length = z) (hz : z ≠ 0) (d : α) {n j : Nat} (hj : j < n * z) : ((List.replicate n d).flatMap enc)[j]? = (enc d)[j % z]? := by
  have h1 : j / z < n := (Nat.div_lt_iff_lt_mul (by omega)).2 hj
  have h2 : j % z < z := Nat.mod_lt _ (by omega)
  have := flat_get he d (l := List.replicate n d) (i := j / z) (f := j % z) (by simpa using h1) h2
  rw [Nat.mul_comm, Nat.div_add_mod] at this
  rw [this]
  congr 2
  simp [List.getD_eq_getElem?_getD, List.getElem?_replicate, h1]
section
variable {X : Cx} {tb : List (Nat × TE)} (E : Env X.c tb) {sz : Nat} {rd : Option Nat} {all : Array Oper} {o : Oper} {rest : List Oper} {k : List It} {L : List (Nat × AV)} {h : Heap} {m : List Nat} {Q : Post}
include E
theorem Ops.makeTok {α : Type} {N d t el n z : Nat} {x y : Operand} {e ee : TE} {enc : α → List AV} (dz : α) (hd : o.dst = some d) (hs : Nat.ble (d + 1) sz = true) (hw : Want all L o true) (ho : o.op = .makeSlice t x y) (hx : evL L x = some (.int .i64 (n : Int))) (hy : evL L y = some (.int .i64 (n : Int))) (ht : lkT tb t = some e) (hk : e.k = .slice el) (hel : lkT tb el = some ee)
    (hzz : (match ee.z with | .bad => none | v => some v.cells) = some (enc dz)) (henc : ∀ a, (enc a).length = z) (hez : Nat.beq ee.s z = true) (hz0 : Nat.beq z 0 = false) (hdt : datsB (enc dz) = true) (hb : Nat.ble ee.b 1000 = true) (hn : n ≠ 0) (hsm : n ≤ 1000000)
    (hg : h.get N = .arr el z 0 []) (hi : HInd N h) (hL : indL N L = true) (hm : (m.all fun i => !Nat.beq i N) = true) (hrd : rdNot N rd = true) (hG : indsB N X.gv = true)
    (nx : Ops X sz rd all rest k ((d, .own N n z) :: L) (h.put N (.arr el z n ((List.replicate n dz).flatMap enc))) m Q) : Ops X sz rd all (o :: rest) k L h m Q := ⟨fun e0 he => by
  refine TriOps.cons (hw e0 he) (K := fun s' => RunK X sz rd k Q .normal s') ?_
  intro ro ρ w a next Q' h1 p h3 h4 h5
  refine ⟨fun _ _ => trivial, ?_⟩
  rw [show (wideR ro).round = ro from rfl, Oper.semAt_eq ro a.eval o (by rw [ho]; intro d q; cases q)]
  have hxv : a.eval x = .int .i64 n := by have := ev_ok h3 x; rw [he.ev hx] at this; simpa only [VR] using this
  have hyv : a.eval y = .int .i64 n := by have := ev_ok h3 y; rw [he.ev hy] at this; simpa only [VR] using this
  obtain ⟨ie, i1, i2, i3⟩ := (E.t el ee hel).si
  have hez := beqT hez
  have hz0 := beqN hz0
  have hzc : X.c.zcells el = some (enc dz) := by
    unfold Ctx.zcells
    rw [(E.t el ee hel).z]
    cases hv : ee.z <;> rw [hv] at hzz <;> first | (cases hzz; done) | exact hzz
  obtain ⟨it, Z, z1, z2, z3, z4⟩ := zcells_ok E.k hzc ρ
  rw [i1] at z4; cases z4
  have hsz : ie.size = z := i2.trans hez
  have hu := under_eq E.k ((E.t t e ht).sl hk)
  have hb1 : (ie.bytes * n : Nat) ≤ 1000 * 1000000 := Nat.mul_le_mul (by rw [i3]; exact bleT hb) hsm
  have hmk := run_make (P := X.c.P) w t el ie Z hu z1 z2 .i64 .i64 n n (by omega) (by omega) (by
    have : ((ie.bytes * n : Nat) : Int) ≤ 1000000000 := by omega
    rw [Int.natCast_mul] at this; omega) (by omega)
  simp only [Int.toNat_natCast] at hmk
  rw [hsz] at hmk
  have gr := newRow_ok p.hr p.wf (p.fr.1 _ (Nat.le_refl _)) el (n * z) (enc dz) (madeCells Z.cells (n * z)) (fun j hj => by
    rw [Row.get_new]; exact made_get z3 _ hj (by rw [henc]; exact hz0)) (by simp [size_madeCells])
  have hro := gr.hr.ok h.nxt _ _ (upd_same _ _ _) (by unfold Heap.ok; rw [show (newRow h el (n * z) .leaf (enc dz)).get h.nxt = .row ⟨el, n * z, .leaf, enc dz, none⟩ from by show (h.new _).get _ = _; rw [Heap.get_new, if_pos rfl]]; simp only []; rw [Heap.row_of (by show (h.new _).get _ = _; rw [Heap.get_new, if_pos rfl])]; rfl)
  rw [show (newRow h el (n * z) .leaf (enc dz)).get h.nxt = .row ⟨el, n * z, .leaf, enc dz, none⟩ from by show (h.new _).get _ = _; rw [Heap.get_new, if_pos rfl]] at hro
  have hro : RowOk _ ⟨el, n * z, .leaf, enc dz, none⟩ _ _ _ := hro
  have hfl : ((List.replicate n dz).flatMap enc).length = n * z := by rw [flat_len henc, List.length_replicate]
  simp only [size_madeCells] at hro
  have hrow : RowOk ρ.d ⟨el, n * z, .leaf, (List.replicate n dz).flatMap enc, none⟩ w.heap.size (n * z) (w.alloc (.cells (madeCells Z.cells (n * z)) el)) := by
    refine ⟨hro.1, hro.2.1, hro.2.2.1, fun j hj => ?_⟩
    have hj : j < n * z := hj
    obtain ⟨v, v1, v2⟩ := hro.2.2.2 j hj
    refine ⟨v, v1, ?_⟩
    have e1 : Row.get ⟨el, n * z, .leaf, (List.replicate n dz).flatMap enc, none⟩ j = (enc dz).getD (j % z) .bad := by
      have := row_at_i (t := el) (cs := (List.replicate n dz).flatMap enc) (j := j) (by rw [hfl]; exact hj)
      rw [hfl] at this
      rw [this, List.getD_eq_getElem?_getD, flat_rep henc hz0 dz hj, List.getD_eq_getElem?_getD]
    have e2 : Row.get ⟨el, n * z, .leaf, enc dz, none⟩ j = (enc dz).getD (j % z) .bad := by
      rw [Row.get_new, henc, List.getD_eq_getElem?_getD]
    rw [e2] at v2
    rw [e1]
    have hlt : j % z < (enc dz).length := by rw [henc]; exact Nat.mod_lt _ (by omega)
    have hdj : datB ((enc dz).getD (j % z) .bad) = true := by
      have key : ∀ (l : List AV) (i : Nat), datsB l = true → i < l.length → datB (l.getD i .bad) = true := by
        intro l
        induction l with
        | nil => intro i _ hi; simp at hi
        | cons a l ih =>
          intro i hl hi
          simp only [datsB] at hl
          split at hl
          · rename_i ha
            cases i with
            | zero => exact ha
            | succ i => exact ih i hl (by simpa using hi)
          · cases hl
      exact key _ _ hdt hlt
    exact dat_ok (ρ := upd ρ h.nxt (w.heap.size, n * z)) _ hdj v2
  obtain ⟨ρ', r1, r2, r3⟩ := p.setArr (w' := w.alloc (.cells (madeCells Z.cells (n * z)) el)) (n' := n) (l' := (List.replicate n dz).flatMap enc) (B := w.heap.size) (C := n) hg hi hG (by omega) hfl (Nat.le_refl n) rfl hrow ⟨rfl, rfl, rfl, by rw [World.size_alloc]; omega⟩ (.inr ⟨rfl, World.size_alloc _ _, fun D hD => by
    show (w.heap.push _)[D]? = _
    rw [Array.getElem?_push, if_neg (by omega)]⟩)
  have hrun : (execOp a.eval o).run X.c.P w = .ok (.value (.slice (some ⟨w.heap.size, 0, none⟩) n n)) (w.alloc (.cells (madeCells Z.cells (n * z)) el)) := by
    simp only [execOp, ho, hxv, hyv]
    simp [Sem.run_bind, hmk]
  rw [hrun]
  obtain ⟨e', he', er'⟩ := known_env (σ := ρ') (L := L) (tm := a.tmps) (sz := sz) h3.1 (fun s v qq => by
    have := h3.2 s
    rw [he s v qq] at this
    exact ind_ok r2 v (indL_at hL s v qq) this)
  refine h5 (.own N n z) ⟨e', _, m⟩ _ _ ρ' ⟨e'.set und d (.own N n z), by rw [hd]; exact setD_some hs, nx.run _ (he'.set d _)⟩ ?_ r1 er' ?_ r3
  · cases rd with
    | none => exact h1
    | some r =>
      obtain ⟨B', N', q1, q2⟩ := h1
      exact ⟨B', N', r2.m r _ (nb (show (!Nat.beq r N) = true from hrd)) q1, q2⟩
  · have hmr : ∀ {m : List Nat} {D : List Deferred}, (m.all fun i => !Nat.beq i N) = true → MR ρ m D → MR ρ' m D := by
      intro m
      induction m with
      | nil => intro D _ q; exact q
      | cons d m ih =>
        intro D hh q
        simp only [List.all_cons, Bool.and_eq_true] at hh
        obtain ⟨B, N, r, q1, q2, q3⟩ := q
        exact ⟨B, N, r, r2.m d _ (nb hh.1) q1, ih hh.2 q2, q3⟩
    obtain ⟨D1, h5, h6⟩ := h4
    exact ⟨D1, hmr hm h5, h6⟩⟩
/-- AN ARRAY OF ONE's OWN, made in full length -/
theorem Ops.makeOwn {α : Type} (N : Nat) {d t el n z : Nat} {x y : Operand} {e ee : TE} {enc : α → List AV} (dz : α) (hd : o.dst = some d) (hs : Nat.ble (d + 1) sz = true) (hw : Want all L o true) (ho : o.op = .makeSlice t x y) (hx : evL L x = some (.int .i64 (n : Int))) (hy : evL L y = some (.int .i64 (n : Int))) (ht : lkT tb t = some e) (hk : e.k = .slice el) (hel : lkT tb el = some ee)
    (hN : h.nxt = N) (hzz : (match ee.z with | .bad => none | v => some v.cells) = some (enc dz)) (henc : ∀ a, (enc a).length = z) (hez : Nat.beq ee.s z = true) (hz0 : Nat.beq z 0 = false) (hdt : datsB (enc dz) = true) (hb : Nat.ble ee.b 1000 = true) (hn : n ≠ 0) (hsm : n ≤ 1000000)
    (hi : HInd N (newAt N h (.arr el z 0 []))) (hL : indL N L = true) (hm : (m.all fun i => !Nat.beq i N) = true) (hrd : rdNot N rd = true) (hG : indsB N X.gv = true)
    (nx : Ops X sz rd all rest k ((d, .own N n z) :: L) ((newAt N h (.arr el z 0 [])).put N (.arr el z n ((List.replicate n dz).flatMap enc))) m Q) (hgz : X.g = none ∨ Nat.ble 1 N = true := by first | exact .inl rfl | exact .inr rfl) : Ops X sz rd all (o :: rest) k L h m Q :=
  Ops.change (Chg.tokNew N el z hN hgz) (Ops.makeTok E dz hd hs hw ho hx hy ht hk hel hzz henc hez hz0 hdt hb hn hsm (by subst hN; rw [← new_at rfl, Heap.get_new, if_pos rfl]) hi hL hm hrd hG nx)
/-- a whole element of an array of one's own -/
theorem Hop.ldFG {α : Type} [Inhabited α] {t : Nat} {x : Operand} {id n i off ty z : Nat} {enc : α → List AV} {l : List α} {e : TE} (ho : o.op = .load t x) (hx : evL L x = some (.optr id n off)) (hoff : off = i * z) (ht : lkT tb t = some e) (ha : e.k.isAgg = true) (hes : Nat.beq e.s z = true) (hg : h.get id = .arr ty z n (l.flatMap enc)) (henc : ∀ a, (enc a).length = z) (hi : i < l.length) : Hop X L h o (.agg (enc (l.getD i default))) h := fun e' he => by
  have h1 := (E.t t e ht).agg
  have h2 := (E.t t e ht).size
  have hes := beqT hes
  subst hoff
  have h3 : (i + 1) * z ≤ l.length * z := Nat.mul_le_mul_right z hi
  rw [Nat.succ_mul] at h3
  rw [ho]; simp only [opA]; rw [he.ev hx]
  simp only [oLoad, h1, ha, h2, hes, hg, Nat.beq_refl, flat_len henc, Nat.ble_eq_true_of_le h3, flat_at henc default l i hi, Px.val]
omit E in
theorem flat_set {α : Type} {z : Nat} {enc : α → List AV} (henc : ∀ a, (enc a).length = z) : ∀ {l : List α} {i : Nat} {b : α}, i < l.length → (l.set i b).flatMap enc = (l.flatMap enc).take (i * z) ++ enc b ++ (l.flatMap enc).drop (i * z + z)
  | [], i, b, hi => by simp at hi
  | a :: l, 0, b, hi => by
    have : List.drop z (enc a ++ l.flatMap enc) = l.flatMap enc := by rw [List.drop_append_of_le_length (by rw [henc]; exact Nat.le_refl _), List.drop_of_length_le (by rw [henc]; exact Nat.le_refl _), List.nil_append]
    simp [this]
  | a :: l, i + 1, b, hi => by
    have ih := flat_set henc (l := l) (i := i) (b := b) (by simpa using hi)
    rw [List.set_cons_succ, List.flatMap_cons, ih, List.flatMap_cons]
    have e1 : (i + 1) * z = (enc a).length + i * z := by rw [henc, Nat.succ_mul, Nat.add_comm]
    rw [e1, Nat.add_assoc, List.take_append, List.drop_append]
    rw [List.take_of_length_le (l := enc a) (by omega), List.drop_of_length_le (l := enc a) (by omega)]
    simp
theorem Hop.stFG {α : Type} {t : Nat} {x y : Operand} {id n i off ty z : Nat} {enc : α → List AV} {l : List α} {v : AV} {e : TE} (b : α) (ho : o.op = .store t x y) (hx : evL L x = some (.optr id n off)) (hy : evL L y = some v) (hv : v.cells = enc b) (hoff : off = i * z) (ht : lkT tb t = some e) (hes : Nat.beq e.s z = true) (hg : h.get id = .arr ty z n (l.flatMap enc)) (henc : ∀ a, (enc a).length = z)
    (h1 : ones (enc b) = true) (h2 : datsB (enc b) = true) (hi : i < l.length) : Hop X L h o und (h.put id (.arr ty z n ((l.set i b).flatMap enc))) := by
  subst hoff
  have hes' := beqT hes
  have h3 : (i + 1) * z ≤ l.length * z := Nat.mul_le_mul_right z hi
  rw [Nat.succ_mul] at h3
  have := Hop.storeO E (off := i * z) ho hx hy ht (by rw [hv, henc]; exact hes) hg (by rw [hv]; exact h1) (by rw [hv]; exact h2) (by rw [hv, henc, flat_len henc]; exact h3)
  rw [hv, henc] at this
  rw [flat_set henc hi]
  exact this
theorem Hop.ldF1 {α : Type} [Inhabited α] {t : Nat} {x : Operand} {id n i off ty z : Nat} {enc : α → List AV} {l : List α} {v : AV} {e : TE} (ho : o.op = .load t x) (hx : evL L x = some (.optr id n off)) (hoff : off = i * z) (ht : lkT tb t = some e) (ha : e.k.isAgg = false) (hg : h.get id = .arr ty z n (l.flatMap enc)) (henc : ∀ a, (enc a).length = z) (hz : Nat.ble 1 z = true) (hv : nth1 (enc (l.getD i default)) 0 = some v) (hi : i < l.length) : Hop X L h o v h :=
  Hop.ldF E ho hx (by rw [hoff]; rfl) ht ha hg henc hz hv hi
/-- an empty one -/
theorem Ops.make0 {d t el n z : Nat} {x y : Operand} {e ee : TE} {zc : List AV} (hd : o.dst = some d) (hs : Nat.ble (d + 1) sz = true) (hw : Want all L o true) (ho : o.op = .makeSlice t x y) (hx : evL L x = some (.int .i64 (n : Int))) (hy : evL L y = some (.int .i64 (n : Int))) (ht : lkT tb t = some e) (hk : e.k = .slice el) (hel : lkT tb el = some ee)
    (hzz : (match ee.z with | .bad => none | v => some v.cells) = some zc) (hez : Nat.beq ee.s z = true) (hn : n = 0)
    (nx : Ops X sz rd all rest k ((d, .rsl 0 z []) :: L) h m Q) : Ops X sz rd all (o :: rest) k L h m Q := ⟨fun e0 he => by
  subst hn
  refine TriOps.cons (hw e0 he) (K := fun s' => RunK X sz rd k Q .normal s') ?_
  intro ro ρ w a next Q' h1 p h3 h4 h5
  refine ⟨fun _ _ => trivial, ?_⟩
  rw [show (wideR ro).round = ro from rfl, Oper.semAt_eq ro a.eval o (by rw [ho]; intro d q; cases q)]
  have hxv : a.eval x = .int .i64 (0 : Nat) := by have := ev_ok h3 x; rw [he.ev hx] at this; simpa only [VR] using this
  have hyv : a.eval y = .int .i64 (0 : Nat) := by have := ev_ok h3 y; rw [he.ev hy] at this; simpa only [VR] using this
  obtain ⟨ie, i1, i2, i3⟩ := (E.t el ee hel).si
  have hzc : X.c.zcells el = some zc := by
    unfold Ctx.zcells
    rw [(E.t el ee hel).z]
    cases hv : ee.z <;> rw [hv] at hzz <;> first | (cases hzz; done) | exact hzz
  obtain ⟨it, Z, z1, z2, z3, z4⟩ := zcells_ok E.k hzc ρ
  rw [i1] at z4; cases z4
  have hu := under_eq E.k ((E.t t e ht).sl hk)
  have hmk := run_make (P := X.c.P) w t el ie Z hu z1 z2 .i64 .i64 (0 : Nat) (0 : Nat) (by omega) (by omega) (by simp) (by omega)
  have hrun : (execOp a.eval o).run X.c.P w = .ok (.value (.slice (some ⟨w.heap.size, 0, none⟩) 0 0)) (w.alloc (.cells (madeCells Z.cells (0 * ie.size)) el)) := by
    simp only [execOp, ho, hxv, hyv]
    simp [Sem.run_bind] at hmk ⊢
    simp [hmk]
  rw [hrun]
  have p2 := p.good ((Good.refl p.hr p.wf).ext (w2 := w.alloc (.cells (madeCells Z.cells (0 * ie.size)) el)) ⟨rfl, rfl, rfl, by rw [World.size_alloc]; omega⟩ (fun D hD => by
    show (w.heap.push _)[D]? = _
    rw [Array.getElem?_push, if_neg (by omega)])) (ArrKeep.refl _)
  exact h5 (.rsl 0 z []) ⟨e0, _, m⟩ _ _ ρ ⟨e0.set und d _, by rw [hd]; exact setD_some hs, nx.run _ (he.set d _)⟩ h1 p2 h3 h4 (by simp only [VR]; exact ⟨by simp, .inl ⟨trivial, .inr ⟨_, _, rfl⟩⟩⟩)⟩
end
end Go.Px
end
/- FxU -/
section
set_option linter.unusedVariables false
set_option linter.unusedSimpArgs false
set_option maxHeartbeats 4000000
namespace Go.Px.Fx
open Go.Proofs
attribute [local irreducible] Go.Px.KOk
noncomputable def encB (b : Bool) : List AV := [.bool (bd (b = true))]
theorem encB_f : encB false = [.bool false] := by unfold encB; rw [bd_no (by simp)]
theorem encB_t : encB true = [.bool true] := by unfold encB; rw [bd_of rfl]
/-- arguments, as clauses -/
def argC (l : List Ag) : Cl := .mk 0 [] l [] []
theorem isV_nil : isV [] = false := bd_no fun h => by have := h.1; simp at this
theorem vars_argC (l : List Ag) : varsL [argC l] = argV l := by
  show (argV l ++ (bif isV [] then [[]] else [])) ++ [] ++ [] = _
  rw [isV_nil]; simp
theorem cnt_argC (l : List Ag) : cntL [argC l] = 1 + l.length := by show 1 + l.length + 0 + 0 = _; omega
theorem ok_argC {l : List Ag} (h : ∀ i, (l.getD i default).x.length ≤ 2000000) : okL [argC l] := ⟨⟨Nat.zero_le _, h, Nat.zero_le _, trivial⟩, trivial⟩
theorem vrs_last {ρ : Map} {u v : AV} (H : ∀ x, VR ρ u x → VR ρ v x) : ∀ (pre : List AV) (L : List Value), VRs ρ (pre ++ [u]) L → VRs ρ (pre ++ [v]) L
  | [], L, h => by
    simp only [List.nil_append, VRs] at h ⊢
    obtain ⟨x, r, h1, h2, h3⟩ := h
    exact ⟨x, r, H x h1, h2, h3⟩
  | a :: pre, L, h => by
    simp only [List.cons_append, VRs] at h ⊢
    obtain ⟨x, r, h1, h2, h3⟩ := h
    exact ⟨x, r, h1, vrs_last H pre r h2, h3⟩
theorem weakC (l : List Ag) : ∀ ρ x, VR ρ (.agg [.int .i64 0, sA [], argsA l, sA [], .nilsl]) x → VR ρ (.agg (encF (argC l))) x := fun ρ x q => by
  simp only [VR] at q ⊢
  obtain ⟨L, h1, h2⟩ := q
  exact ⟨L, vrs_last (weak_nil 5 ρ) [.int .i64 0, sA [], argsA l, sA []] L h1, h2⟩
/-- what is said by now: by each variable; which were met -/
structure Sd where
  s : List Va
  m : List Bool
noncomputable def stepG (vs : List Str) (row : List Va) (l : List Ag) (i : Nat) (d : Sd) : Option Sd :=
  let a := l.getD i default
  let r := row.getD i default
  if a.x = [] ∧ cmpVa a.v r ≠ 0 then none
  else if ¬ (fstN vs a.x < vs.length ∧ vs.getD (fstN vs a.x) default = a.x) then some d
  else if d.m.getD (fstN vs a.x) default = true ∧ cmpVa (d.s.getD (fstN vs a.x) default) r ≠ 0 then none
  else some ⟨d.s.set (fstN vs a.x) r, d.m.set (fstN vs a.x) true⟩
noncomputable def goG (vs : List Str) (row : List Va) (l : List Ag) : Nat → Option Sd
  | 0 => some ⟨List.replicate vs.length ⟨0, 0, []⟩, List.replicate vs.length false⟩
  | i + 1 => (goG vs row l i).bind (stepG vs row l i)
theorem stepG_a {vs : List Str} {row : List Va} {l : List Ag} {i : Nat} {d : Sd} (h1 : (l.getD i default).x = []) (h2 : ¬ cmpVa (l.getD i default).v (row.getD i default) = 0) : stepG vs row l i d = none := by
  unfold stepG; simp only []; rw [if_pos ⟨h1, h2⟩]
theorem stepG_b {vs : List Str} {row : List Va} {l : List Ag} {i : Nat} {d : Sd} (h1 : ¬ ((l.getD i default).x = [] ∧ cmpVa (l.getD i default).v (row.getD i default) ≠ 0)) (h2 : ¬ (fstN vs (l.getD i default).x < vs.length ∧ vs.getD (fstN vs (l.getD i default).x) default = (l.getD i default).x)) : stepG vs row l i d = some d := by
  unfold stepG; simp only []; rw [if_neg h1, if_pos h2]
theorem stepG_c {vs : List Str} {row : List Va} {l : List Ag} {i : Nat} {d : Sd} (h1 : ¬ ((l.getD i default).x = [] ∧ cmpVa (l.getD i default).v (row.getD i default) ≠ 0)) (h2 : fstN vs (l.getD i default).x < vs.length ∧ vs.getD (fstN vs (l.getD i default).x) default = (l.getD i default).x) (h3 : d.m.getD (fstN vs (l.getD i default).x) default = true) (h4 : ¬ cmpVa (d.s.getD (fstN vs (l.getD i default).x) default) (row.getD i default) = 0) : stepG vs row l i d = none := by
  unfold stepG; simp only []; rw [if_neg h1, if_neg (fun h => h h2), if_pos ⟨h3, h4⟩]
theorem stepG_d {vs : List Str} {row : List Va} {l : List Ag} {i : Nat} {d : Sd} (h1 : ¬ ((l.getD i default).x = [] ∧ cmpVa (l.getD i default).v (row.getD i default) ≠ 0)) (h2 : fstN vs (l.getD i default).x < vs.length ∧ vs.getD (fstN vs (l.getD i default).x) default = (l.getD i default).x) (h3 : ¬ (d.m.getD (fstN vs (l.getD i default).x) default = true ∧ cmpVa (d.s.getD (fstN vs (l.getD i default).x) default) (row.getD i default) ≠ 0)) : stepG vs row l i d = some ⟨d.s.set (fstN vs (l.getD i default).x) (row.getD i default), d.m.set (fstN vs (l.getD i default).x) true⟩ := by
  unfold stepG; simp only []; rw [if_neg h1, if_neg (fun h => h h2), if_neg h3]
theorem goG_succ {vs : List Str} {row : List Va} {l : List Ag} {i : Nat} {d : Sd} (h : goG vs row l i = some d) : goG vs row l (i + 1) = stepG vs row l i d := by simp only [goG, h, Option.bind_some]
theorem goG_len {vs : List Str} {row : List Va} {l : List Ag} : ∀ {i : Nat} {d : Sd}, goG vs row l i = some d → d.s.length = vs.length ∧ d.m.length = vs.length
  | 0, d, h => by cases h; simp
  | i + 1, d, h => by
    simp only [goG, Option.bind_eq_some_iff] at h
    obtain ⟨d', h1, h2⟩ := h
    have ih := goG_len h1
    unfold stepG at h2
    simp only [] at h2
    split at h2
    · cases h2
    · split at h2
      · cases h2; exact ih
      · split at h2
        · cases h2
        · cases h2; simpa using ih
theorem goG_none {vs : List Str} {row : List Va} {l : List Ag} {i : Nat} (h : goG vs row l i = none) : ∀ {j : Nat}, i ≤ j → goG vs row l j = none
  | 0, hj => by rw [show (0 : Nat) = i by omega]; exact h
  | j + 1, hj => by
    by_cases q : i = j + 1
    · rw [← q]; exact h
    · have := goG_none h (j := j) (by omega)
      simp only [goG, this, Option.bind_none]
/-- what a call of Fits answers -/
noncomputable def fitG (row : List Va) (l : List Ag) : AV :=
  match (if row.length = l.length then goG (VarsG (argV l)) row l l.length else none) with
  | some d => .tup [strsA (VarsG (argV l)), rowA d.s, .bool true]
  | none => .tup [strsA [], rowA [], .bool false]
noncomputable def r5_0 : List Oper := ((drawn (Try.f5.body.getD .skip))[0]?).getD []
theorem dr5_0 : chkOrd cF r5_0 [0, 1, 2, 3, 4, 5, 6, 7, 8, 9, 10, 11, 12, 13] = true := by kernel_rfl
noncomputable def r5_1 : List Oper := ((drawn (Try.f5.body.getD .skip))[1]?).getD []
theorem dr5_1 : chkOrd cF r5_1 [0, 1, 2, 3, 4, 5, 6, 7, 8, 9, 10, 11, 12, 13, 14, 15, 16] = true := by kernel_rfl
end Go.Px.Fx
end
/- FxUa -/
section
set_option linter.unusedVariables false
set_option linter.unusedSimpArgs false
set_option maxHeartbeats 4000000
namespace Go.Px.Fx
open Go.Proofs
attribute [local irreducible] Go.Px.KOk
theorem k5p (row : List Va) (l : List Ag) (vs : List Str) (h1 : row.length ≤ 4000) (h2 : l.length ≤ 4000) (k1 : KOk cF 15 [clsA [argC l]] (strsA vs)) (hvl : vs.length ≤ 4000) (hvs : SrtS vs) (hlen : row.length = l.length) (hv0 : ¬ vs.length = 0) : KOk cF 5 [rowA row, argsA l] (match goG vs row l l.length with
  | some d => .tup [strsA vs, rowA d.s, .bool true]
  | none => .tup [strsA [], rowA [], .bool false]) := by
  refine KOk.of cF_ok eF.g Try.func5 rfl (Nat.le_of_ble_eq_true rfl) fun w F => ?_
  repeat' first | refine Go.seq ?_ | refine Go.region rfl ?_ | refine Ops.nil ?_ | refine Ops.weakAt eF 20 rfl rfl (by first | exact Want.no rfl | exact Want.tT rfl rfl rfl rfl | exact Want.fF rfl rfl rfl rfl) (by exact Hop.build eF rfl rfl rfl rfl rfl rfl rfl) (weakC l) ?_ | refine Ops.makeOwn (z := 3) (enc := encVa) eF 0 ⟨0, 0, []⟩ rfl rfl (by first | exact Want.no rfl | exact Want.tT rfl rfl rfl rfl | exact Want.fF rfl rfl rfl rfl) rfl rfl rfl rfl rfl rfl rfl rfl (fun _ => rfl) rfl rfl rfl rfl hv0 (by omega) ⟨.inl rfl, trivial⟩ rfl rfl rfl rfl ?_ | refine Ops.makeOwn (z := 1) (enc := encB) eF 1 false rfl rfl (by first | exact Want.no rfl | exact Want.tT rfl rfl rfl rfl | exact Want.fF rfl rfl rfl rfl) rfl rfl rfl rfl rfl rfl rfl (by rw [encB_f]; rfl) (fun _ => rfl) rfl rfl rfl rfl hv0 (by omega) ⟨.inl rfl, .inr trivial, trivial⟩ rfl rfl rfl rfl ?_ | refine Ops.val eF rfl rfl (by first | exact Want.no rfl | exact Want.tT rfl rfl rfl rfl | exact Want.fF rfl rfl rfl rfl) (by first | exact Hop.move rfl rfl | exact Hop.assign rfl rfl | exact Hop.neq rfl rfl rfl | exact Hop.lenD eF rfl rfl rfl rfl rfl rfl rfl) ?_ | refine Ops.call eF rfl rfl (by first | exact Want.no rfl | exact Want.tT rfl rfl rfl rfl | exact Want.fF rfl rfl rfl rfl) rfl rfl rfl rfl (k1) rfl ?_ | refine Ops.data eF rfl rfl (by first | exact Want.no rfl | exact Want.tT rfl rfl rfl rfl | exact Want.fF rfl rfl rfl rfl) rfl (Hop.bslice eF rfl rfl rfl rfl rfl rfl rfl rfl rfl rfl rfl) rfl rfl ?_ | refine Go.condNt rfl (fun _ => ?_) (fun _ => ?_) | refine Go.block ?_ | refine Go.skip ?_
  case refine_1 => rename_i q; exact absurd (by omega) q
  refine Go.toHQ (N := 2) (bs := [.arr 29 3 vs.length ((List.replicate vs.length ⟨0, 0, []⟩).flatMap encVa), .arr 4 1 vs.length ((List.replicate vs.length false).flatMap encB)]) (L' := [(0, rowA row), (7, strsA vs), (8, .own 0 vs.length 3), (9, .own 1 vs.length 1), (29, argsA l), (30, .int .i64 l.length), (31, .int .i64 0)]) ?_ rfl eF.g ⟨rfl, rfl, rfl, rfl, rfl, rfl, rfl, trivial⟩ rfl rfl ⟨.inr rfl, .inr rfl, trivial⟩ ⟨trivial, trivial, trivial⟩ rfl rfl
  refine Go.loop (fun p : Nat × Sd => [(0, rowA row), (7, strsA vs), (8, .own 0 vs.length 3), (9, .own 1 vs.length 1), (29, argsA l), (30, .int .i64 l.length), (31, .int .i64 p.1)]) (fun p => hq 2 [.arr 29 3 vs.length (p.2.s.flatMap encVa), .arr 4 1 vs.length (p.2.m.flatMap encB)]) (fun p => p.1 ≤ l.length ∧ goG vs row l p.1 = some p.2) (fun p => l.length - p.1) (0, ⟨List.replicate vs.length ⟨0, 0, []⟩, List.replicate vs.length false⟩) ⟨Nat.zero_le _, rfl⟩ ⟨rfl, rfl, rfl, rfl, rfl, rfl, rfl, trivial⟩ rfl (fun p hP ih => ?_)
  obtain ⟨i, d⟩ := p
  obtain ⟨hi, hd⟩ := hP
  simp only [] at hi hd ih ⊢
  obtain ⟨hd1, hd2⟩ := goG_len hd
  have kb := k16 vs (l.getD (i : Int).toNat default).x (by omega) hvs
  have hir : i < l.length → i < row.length := fun q => by omega
  have ez : ((i : Int)).toNat = i := rfl
  repeat' first | refine Go.seq ?_ | refine Go.region rfl ?_ | refine Ops.nil ?_ | refine Ops.frzMv eF 5 (show AV.rsl vs.length 3 (d.s.flatMap encVa) = rowA d.s by rw [← hd1]; rfl) rfl rfl (by first | exact Want.no rfl | exact Want.tT rfl rfl rfl rfl | exact Want.fF rfl rfl rfl rfl) (by first | exact Hop.move rfl rfl | exact Hop.assign rfl rfl) rfl (by repeat' first | exact trivial | refine And.intro ?_ ?_ | exact .inr trivial | exact .inr (ind_row rfl rfl) | exact .inr rfl | exact .inl rfl | exact .inr (hindL _ _)) rfl rfl rfl rfl ?_ | refine Ops.val eF rfl rfl (by first | exact Want.no rfl | exact Want.tT rfl rfl rfl rfl | exact Want.fF rfl rfl rfl rfl) (by first | exact Hop.move rfl rfl | exact Hop.assign rfl rfl | exact Hop.lss rfl rfl rfl | exact Hop.faP eF rfl rfl rfl rfl rfl rfl rfl | exact Hop.idx eF rfl rfl rfl rfl rfl rfl rfl (fun _ => rfl) (by omega) | exact Hop.ldRG eF rfl rfl rfl rfl rfl | exact Hop.ldP eF rfl rfl rfl rfl rfl rfl rfl | exact Hop.extract rfl rfl rfl) ?_ | refine Ops.call eF rfl rfl (by first | exact Want.no rfl | exact Want.tT rfl rfl rfl rfl | exact Want.fF rfl rfl rfl rfl) rfl rfl rfl rfl (kb) rfl ?_ | refine Ops.rowAt eF 2 rfl rfl (by first | exact Want.no rfl | exact Want.tT rfl rfl rfl rfl | exact Want.fF rfl rfl rfl rfl) rfl (Hop.alloc eF rfl rfl rfl) ?_ | refine Ops.unit eF rfl (by first | exact Want.no rfl | exact Want.tT rfl rfl rfl rfl | exact Want.fF rfl rfl rfl rfl) (Hop.store eF rfl rfl rfl rfl rfl rfl) (ArrKeep.put rfl) ?_ | refine Go.condPt rfl (fun _ => ?_) (fun _ => ?_) | refine Go.block ?_ | refine Go.skip ?_ | refine Go.exit rfl ?_
  case refine_2.refine_2 =>
    rename_i q
    have ei : i = l.length := by omega
    subst ei
    rw [hd]
    exact Go.retFm rfl rfl rfl rfl
  refine Go.draw eF hm [n36] [0, 1, 2, 3, 4, 5, 6, 7, 8, 9, 10, 11, 12, 13] dr5_0 ?_
  repeat' first | refine Dr.nil ?_ | refine Dr.pure rfl rfl rfl rfl (by first | exact Want.no rfl | exact Want.tT rfl rfl rfl rfl | exact Want.fF rfl rfl rfl rfl) (by first | exact Hop.move rfl rfl | exact Hop.assign rfl rfl | exact Hop.pickT rfl rfl rfl | exact Hop.pickF rfl rfl rfl | exact Hop.neq rfl rfl rfl | exact Hop.eqS rfl rfl rfl | exact Hop.faP eF rfl rfl rfl rfl rfl rfl rfl | exact Hop.idx eF rfl rfl rfl rfl rfl rfl rfl (fun _ => rfl) (by omega) | exact Hop.ldRG eF rfl rfl rfl rfl rfl | exact Hop.ldP eF rfl rfl rfl rfl rfl rfl rfl | exact Hop.ldPG eF rfl rfl rfl rfl rfl rfl rfl) ?_ | refine Dr.light rfl rfl rfl rfl (by first | exact Want.no rfl | exact Want.tT rfl rfl rfl rfl | exact Want.fF rfl rfl rfl rfl) (by first | exact Hop.ldRG eF rfl rfl rfl rfl rfl | exact Hop.ldP eF rfl rfl rfl rfl rfl rfl rfl | exact Hop.ldPG eF rfl rfl rfl rfl rfl rfl rfl) ?_ | refine Dr.skip rfl rfl rfl (by first | exact Want.fT rfl rfl rfl rfl | exact Want.tF rfl rfl rfl rfl | exact Want.und rfl rfl rfl rfl) ?_ | refine Dr.gP rfl rfl (fun _ => ?_) (fun _ => ?_) | refine Dr.call rfl rfl rfl rfl (by first | exact Want.no rfl | exact Want.tT rfl rfl rfl rfl | exact Want.fF rfl rfl rfl rfl) rfl rfl rfl rfl (by first | exact pans_hd (_, _) rfl rfl) ?_
  repeat' first | refine Go.seq ?_ | refine Go.region rfl ?_ | refine Ops.nil ?_ | refine Ops.weakAt eF 4 rfl rfl (by first | exact Want.no rfl | exact Want.tT rfl rfl rfl rfl | exact Want.fF rfl rfl rfl rfl) (Hop.assign rfl rfl) (weak_nil 1) ?_ | refine Ops.weakAt eF 5 rfl rfl (by first | exact Want.no rfl | exact Want.tT rfl rfl rfl rfl | exact Want.fF rfl rfl rfl rfl) (Hop.assign rfl rfl) (weak_nil 3) ?_ | refine Ops.val eF rfl rfl (by first | exact Want.no rfl | exact Want.tT rfl rfl rfl rfl | exact Want.fF rfl rfl rfl rfl) (by first | exact Hop.move rfl rfl | exact Hop.assign rfl rfl | exact Hop.not rfl rfl | exact Hop.add rfl rfl rfl (by omega)) ?_ | refine Go.condF rfl ?_ | refine Go.condNt rfl (fun _ => ?_) (fun _ => ?_) | refine Go.exit rfl ?_
  case refine_2.refine_1.refine_1.refine_2.refine_2 =>
    rename_i c1 c2 c3
    refine Go.draw eF hm [n36] [0, 1, 2, 3, 4, 5, 6, 7, 8, 9, 10, 11, 12, 13, 14, 15, 16] dr5_1 ?_
    repeat' first | refine Dr.nil ?_ | refine Dr.pure rfl rfl rfl rfl (by first | exact Want.no rfl | exact Want.tT rfl rfl rfl rfl | exact Want.fF rfl rfl rfl rfl) (by first | exact Hop.move rfl rfl | exact Hop.assign rfl rfl | exact Hop.pickT rfl rfl rfl | exact Hop.pickF rfl rfl rfl | exact Hop.neq rfl rfl rfl | exact Hop.idx eF rfl rfl rfl rfl rfl rfl rfl (fun _ => rfl) (by omega) | exact Hop.idxO eF rfl rfl rfl rfl rfl rfl rfl (by omega) | exact Hop.ldRG eF rfl rfl rfl rfl rfl) ?_ | refine Dr.light rfl rfl rfl rfl (by first | exact Want.no rfl | exact Want.tT rfl rfl rfl rfl | exact Want.fF rfl rfl rfl rfl) (by first | exact Hop.ldRG eF rfl rfl rfl rfl rfl) ?_ | refine Dr.skip rfl rfl rfl (by first | exact Want.fT rfl rfl rfl rfl | exact Want.tF rfl rfl rfl rfl | exact Want.und rfl rfl rfl rfl) ?_ | refine Dr.gP rfl rfl (fun _ => ?_) (fun _ => ?_) | refine Dr.call rfl rfl rfl rfl (by first | exact Want.no rfl | exact Want.tT rfl rfl rfl rfl | exact Want.fF rfl rfl rfl rfl) rfl rfl rfl rfl (by first | exact pans_hd (_, _) rfl rfl) ?_ | refine (Dr.light rfl rfl rfl rfl (by first | exact Want.no rfl | exact Want.tT rfl rfl rfl rfl | exact Want.fF rfl rfl rfl rfl) (by exact Hop.ldFG eF rfl rfl rfl rfl rfl rfl rfl (fun _ => rfl) (by omega)) ?_) | refine (Dr.light rfl rfl rfl rfl (by first | exact Want.no rfl | exact Want.tT rfl rfl rfl rfl | exact Want.fF rfl rfl rfl rfl) (by exact Hop.ldF1 eF rfl rfl rfl rfl rfl rfl (fun _ => rfl) rfl rfl (by omega)) ?_)
    repeat' first | refine Go.seq ?_ | refine Go.region rfl ?_ | refine Ops.nil ?_ | refine Ops.weakAt eF 4 rfl rfl (by first | exact Want.no rfl | exact Want.tT rfl rfl rfl rfl | exact Want.fF rfl rfl rfl rfl) (Hop.assign rfl rfl) (weak_nil 1) ?_ | refine Ops.weakAt eF 5 rfl rfl (by first | exact Want.no rfl | exact Want.tT rfl rfl rfl rfl | exact Want.fF rfl rfl rfl rfl) (Hop.assign rfl rfl) (weak_nil 3) ?_ | refine Ops.unit eF rfl (by first | exact Want.no rfl | exact Want.tT rfl rfl rfl rfl | exact Want.fF rfl rfl rfl rfl) (Hop.stFG (z := 3) (enc := encVa) eF (row.getD (i : Int).toNat default) rfl rfl rfl rfl rfl rfl rfl rfl (fun _ => rfl) rfl rfl (by omega)) (ArrKeep.arr rfl) ?_ | refine Ops.unit eF rfl (by first | exact Want.no rfl | exact Want.tT rfl rfl rfl rfl | exact Want.fF rfl rfl rfl rfl) (Hop.stFG (z := 1) (enc := encB) eF true rfl rfl rfl (by rw [encB_t]; rfl) rfl rfl rfl rfl (fun _ => rfl) (by rw [encB_t]; rfl) (by rw [encB_t]; rfl) (by omega)) (ArrKeep.arr rfl) ?_ | refine Ops.val eF rfl rfl (by first | exact Want.no rfl | exact Want.tT rfl rfl rfl rfl | exact Want.fF rfl rfl rfl rfl) (by first | exact Hop.move rfl rfl | exact Hop.assign rfl rfl | exact Hop.add rfl rfl rfl (by omega) | exact Hop.idx eF rfl rfl rfl rfl rfl rfl rfl (fun _ => rfl) (by omega) | exact Hop.idxO eF rfl rfl rfl rfl rfl rfl rfl (by omega) | exact Hop.ldRG eF rfl rfl rfl rfl rfl) ?_ | refine Go.condF rfl ?_ | refine Go.condNt rfl (fun _ => ?_) (fun _ => ?_) | refine Go.unblk ?_ | refine Go.skip ?_
    · rename_i c4 c5
      rw [goG_none (i := i + 1) ((goG_succ hd).trans (stepG_c (fun h => h.2 c2) c3 c4 c5)) (by omega)]
      exact Go.retFm rfl rfl rfl rfl
    · rename_i c4 c5
      exact Go.toQ (ih (i + 1, _) ⟨by show i + 1 ≤ _; omega, (goG_succ hd).trans (stepG_d (fun h => h.2 c2) c3 (fun h => h.2 c5))⟩ (by show l.length - (i + 1) < _; omega)) rfl eF.g ⟨rfl, rfl, rfl, rfl, rfl, rfl, rfl, trivial⟩ rfl rfl ⟨.inr rfl, .inr rfl, trivial⟩ ⟨trivial, trivial, trivial⟩ rfl rfl
    · rename_i c4
      exact Go.toQ (ih (i + 1, _) ⟨by show i + 1 ≤ _; omega, (goG_succ hd).trans (stepG_d (fun h => h.2 c2) c3 (fun h => c4 h.1))⟩ (by show l.length - (i + 1) < _; omega)) rfl eF.g ⟨rfl, rfl, rfl, rfl, rfl, rfl, rfl, trivial⟩ rfl rfl ⟨.inr rfl, .inr rfl, trivial⟩ ⟨trivial, trivial, trivial⟩ rfl rfl
  case refine_2.refine_1.refine_2.refine_2 =>
    rename_i c1 c3
    refine Go.draw eF hm [n36] [0, 1, 2, 3, 4, 5, 6, 7, 8, 9, 10, 11, 12, 13, 14, 15, 16] dr5_1 ?_
    repeat' first | refine Dr.nil ?_ | refine Dr.pure rfl rfl rfl rfl (by first | exact Want.no rfl | exact Want.tT rfl rfl rfl rfl | exact Want.fF rfl rfl rfl rfl) (by first | exact Hop.move rfl rfl | exact Hop.assign rfl rfl | exact Hop.pickT rfl rfl rfl | exact Hop.pickF rfl rfl rfl | exact Hop.neq rfl rfl rfl | exact Hop.idx eF rfl rfl rfl rfl rfl rfl rfl (fun _ => rfl) (by omega) | exact Hop.idxO eF rfl rfl rfl rfl rfl rfl rfl (by omega) | exact Hop.ldRG eF rfl rfl rfl rfl rfl) ?_ | refine Dr.light rfl rfl rfl rfl (by first | exact Want.no rfl | exact Want.tT rfl rfl rfl rfl | exact Want.fF rfl rfl rfl rfl) (by first | exact Hop.ldRG eF rfl rfl rfl rfl rfl) ?_ | refine Dr.skip rfl rfl rfl (by first | exact Want.fT rfl rfl rfl rfl | exact Want.tF rfl rfl rfl rfl | exact Want.und rfl rfl rfl rfl) ?_ | refine Dr.gP rfl rfl (fun _ => ?_) (fun _ => ?_) | refine Dr.call rfl rfl rfl rfl (by first | exact Want.no rfl | exact Want.tT rfl rfl rfl rfl | exact Want.fF rfl rfl rfl rfl) rfl rfl rfl rfl (by first | exact pans_hd (_, _) rfl rfl) ?_ | refine (Dr.light rfl rfl rfl rfl (by first | exact Want.no rfl | exact Want.tT rfl rfl rfl rfl | exact Want.fF rfl rfl rfl rfl) (by exact Hop.ldFG eF rfl rfl rfl rfl rfl rfl rfl (fun _ => rfl) (by omega)) ?_) | refine (Dr.light rfl rfl rfl rfl (by first | exact Want.no rfl | exact Want.tT rfl rfl rfl rfl | exact Want.fF rfl rfl rfl rfl) (by exact Hop.ldF1 eF rfl rfl rfl rfl rfl rfl (fun _ => rfl) rfl rfl (by omega)) ?_)
    repeat' first | refine Go.seq ?_ | refine Go.region rfl ?_ | refine Ops.nil ?_ | refine Ops.weakAt eF 4 rfl rfl (by first | exact Want.no rfl | exact Want.tT rfl rfl rfl rfl | exact Want.fF rfl rfl rfl rfl) (Hop.assign rfl rfl) (weak_nil 1) ?_ | refine Ops.weakAt eF 5 rfl rfl (by first | exact Want.no rfl | exact Want.tT rfl rfl rfl rfl | exact Want.fF rfl rfl rfl rfl) (Hop.assign rfl rfl) (weak_nil 3) ?_ | refine Ops.unit eF rfl (by first | exact Want.no rfl | exact Want.tT rfl rfl rfl rfl | exact Want.fF rfl rfl rfl rfl) (Hop.stFG (z := 3) (enc := encVa) eF (row.getD (i : Int).toNat default) rfl rfl rfl rfl rfl rfl rfl rfl (fun _ => rfl) rfl rfl (by omega)) (ArrKeep.arr rfl) ?_ | refine Ops.unit eF rfl (by first | exact Want.no rfl | exact Want.tT rfl rfl rfl rfl | exact Want.fF rfl rfl rfl rfl) (Hop.stFG (z := 1) (enc := encB) eF true rfl rfl rfl (by rw [encB_t]; rfl) rfl rfl rfl rfl (fun _ => rfl) (by rw [encB_t]; rfl) (by rw [encB_t]; rfl) (by omega)) (ArrKeep.arr rfl) ?_ | refine Ops.val eF rfl rfl (by first | exact Want.no rfl | exact Want.tT rfl rfl rfl rfl | exact Want.fF rfl rfl rfl rfl) (by first | exact Hop.move rfl rfl | exact Hop.assign rfl rfl | exact Hop.add rfl rfl rfl (by omega) | exact Hop.idx eF rfl rfl rfl rfl rfl rfl rfl (fun _ => rfl) (by omega) | exact Hop.idxO eF rfl rfl rfl rfl rfl rfl rfl (by omega) | exact Hop.ldRG eF rfl rfl rfl rfl rfl) ?_ | refine Go.condF rfl ?_ | refine Go.condNt rfl (fun _ => ?_) (fun _ => ?_) | refine Go.unblk ?_ | refine Go.skip ?_
    · rename_i c4 c5
      rw [goG_none (i := i + 1) ((goG_succ hd).trans (stepG_c (fun h => c1 h.1) c3 c4 c5)) (by omega)]
      exact Go.retFm rfl rfl rfl rfl
    · rename_i c4 c5
      exact Go.toQ (ih (i + 1, _) ⟨by show i + 1 ≤ _; omega, (goG_succ hd).trans (stepG_d (fun h => c1 h.1) c3 (fun h => h.2 c5))⟩ (by show l.length - (i + 1) < _; omega)) rfl eF.g ⟨rfl, rfl, rfl, rfl, rfl, rfl, rfl, trivial⟩ rfl rfl ⟨.inr rfl, .inr rfl, trivial⟩ ⟨trivial, trivial, trivial⟩ rfl rfl
    · rename_i c4
      exact Go.toQ (ih (i + 1, _) ⟨by show i + 1 ≤ _; omega, (goG_succ hd).trans (stepG_d (fun h => c1 h.1) c3 (fun h => c4 h.1))⟩ (by show l.length - (i + 1) < _; omega)) rfl eF.g ⟨rfl, rfl, rfl, rfl, rfl, rfl, rfl, trivial⟩ rfl rfl ⟨.inr rfl, .inr rfl, trivial⟩ ⟨trivial, trivial, trivial⟩ rfl rfl
  · rename_i c1 c2
    rw [goG_none (i := i + 1) ((goG_succ hd).trans (stepG_a c1 c2)) (by omega)]
    exact Go.retFm rfl rfl rfl rfl
  · rename_i c1 c2 c3
    exact Go.toQ (ih (i + 1, d) ⟨by show i + 1 ≤ _; omega, (goG_succ hd).trans (stepG_b (fun h => h.2 c2) c3)⟩ (by show l.length - (i + 1) < _; omega)) rfl eF.g ⟨rfl, rfl, rfl, rfl, rfl, rfl, rfl, trivial⟩ rfl rfl ⟨.inr rfl, .inr rfl, trivial⟩ ⟨trivial, trivial, trivial⟩ rfl rfl
  · rename_i c1 c3
    exact Go.toQ (ih (i + 1, d) ⟨by show i + 1 ≤ _; omega, (goG_succ hd).trans (stepG_b (fun h => c1 h.1) c3)⟩ (by show l.length - (i + 1) < _; omega)) rfl eF.g ⟨rfl, rfl, rfl, rfl, rfl, rfl, rfl, trivial⟩ rfl rfl ⟨.inr rfl, .inr rfl, trivial⟩ ⟨trivial, trivial, trivial⟩ rfl rfl
end Go.Px.Fx
end
/- FxUb -/
section
set_option linter.unusedVariables false
set_option linter.unusedSimpArgs false
set_option maxHeartbeats 4000000
namespace Go.Px.Fx
open Go.Proofs
attribute [local irreducible] Go.Px.KOk
theorem k5z (row : List Va) (l : List Ag) (vs : List Str) (h1 : row.length ≤ 4000) (h2 : l.length ≤ 4000) (k1 : KOk cF 15 [clsA [argC l]] (strsA vs)) (hvl : vs.length ≤ 4000) (hvs : SrtS vs) (hlen : row.length = l.length) (hv0 : vs.length = 0) : KOk cF 5 [rowA row, argsA l] (match goG vs row l l.length with
  | some d => .tup [strsA vs, rowA d.s, .bool true]
  | none => .tup [strsA [], rowA [], .bool false]) := by
  refine KOk.of cF_ok eF.g Try.func5 rfl (Nat.le_of_ble_eq_true rfl) fun w F => ?_
  have e0 : vs = [] := List.length_eq_zero_iff.1 hv0
  subst e0
  repeat' first | refine Go.seq ?_ | refine Go.region rfl ?_ | refine Ops.nil ?_ | refine Ops.weakAt eF 20 rfl rfl (by first | exact Want.no rfl | exact Want.tT rfl rfl rfl rfl | exact Want.fF rfl rfl rfl rfl) (by exact Hop.build eF rfl rfl rfl rfl rfl rfl rfl) (weakC l) ?_ | refine Ops.make0 (n := 0) (z := 3) eF rfl rfl (by first | exact Want.no rfl | exact Want.tT rfl rfl rfl rfl | exact Want.fF rfl rfl rfl rfl) rfl rfl rfl rfl rfl rfl rfl rfl rfl ?_ | refine Ops.make0 (n := 0) (z := 1) eF rfl rfl (by first | exact Want.no rfl | exact Want.tT rfl rfl rfl rfl | exact Want.fF rfl rfl rfl rfl) rfl rfl rfl rfl rfl rfl rfl rfl rfl ?_ | refine Ops.val eF rfl rfl (by first | exact Want.no rfl | exact Want.tT rfl rfl rfl rfl | exact Want.fF rfl rfl rfl rfl) (by first | exact Hop.move rfl rfl | exact Hop.assign rfl rfl | exact Hop.neq rfl rfl rfl | exact Hop.lenD eF rfl rfl rfl rfl rfl rfl rfl) ?_ | refine Ops.call eF rfl rfl (by first | exact Want.no rfl | exact Want.tT rfl rfl rfl rfl | exact Want.fF rfl rfl rfl rfl) rfl rfl rfl rfl (k1) rfl ?_ | refine Ops.data eF rfl rfl (by first | exact Want.no rfl | exact Want.tT rfl rfl rfl rfl | exact Want.fF rfl rfl rfl rfl) rfl (Hop.bslice eF rfl rfl rfl rfl rfl rfl rfl rfl rfl rfl rfl) rfl rfl ?_ | refine Go.condNt rfl (fun _ => ?_) (fun _ => ?_) | refine Go.block ?_ | refine Go.skip ?_
  case refine_1 => rename_i q; exact absurd (by omega) q
  refine Go.toHQ (N := 0) (bs := []) (L' := [(0, rowA row), (7, strsA []), (8, .rsl 0 3 []), (29, argsA l), (30, .int .i64 l.length), (31, .int .i64 0)]) ?_ rfl eF.g ⟨rfl, rfl, rfl, rfl, rfl, rfl, trivial⟩ rfl rfl trivial trivial rfl rfl
  refine Go.loop (fun i : Nat => [(0, rowA row), (7, strsA []), (8, .rsl 0 3 []), (29, argsA l), (30, .int .i64 l.length), (31, .int .i64 i)]) (fun _ => hq 0 []) (fun i => i ≤ l.length ∧ goG [] row l i = some ⟨[], []⟩) (fun i => l.length - i) 0 ⟨Nat.zero_le _, rfl⟩ ⟨rfl, rfl, rfl, rfl, rfl, rfl, trivial⟩ rfl (fun i hP ih => ?_)
  obtain ⟨hi, hd⟩ := hP
  have kb := k16 [] (l.getD (i : Int).toNat default).x (Nat.zero_le _) hvs
  have hir : i < l.length → i < row.length := fun q => by omega
  repeat' first | refine Go.seq ?_ | refine Go.region rfl ?_ | refine Ops.nil ?_ | refine Ops.val eF rfl rfl (by first | exact Want.no rfl | exact Want.tT rfl rfl rfl rfl | exact Want.fF rfl rfl rfl rfl) (by first | exact Hop.move rfl rfl | exact Hop.assign rfl rfl | exact Hop.lss rfl rfl rfl | exact Hop.faP eF rfl rfl rfl rfl rfl rfl rfl | exact Hop.idx eF rfl rfl rfl rfl rfl rfl rfl (fun _ => rfl) (by omega) | exact Hop.ldRG eF rfl rfl rfl rfl rfl | exact Hop.ldP eF rfl rfl rfl rfl rfl rfl rfl | exact Hop.extract rfl rfl rfl) ?_ | refine Ops.call eF rfl rfl (by first | exact Want.no rfl | exact Want.tT rfl rfl rfl rfl | exact Want.fF rfl rfl rfl rfl) rfl rfl rfl rfl (kb) rfl ?_ | refine Ops.rowAt eF 0 rfl rfl (by first | exact Want.no rfl | exact Want.tT rfl rfl rfl rfl | exact Want.fF rfl rfl rfl rfl) rfl (Hop.alloc eF rfl rfl rfl) ?_ | refine Ops.unit eF rfl (by first | exact Want.no rfl | exact Want.tT rfl rfl rfl rfl | exact Want.fF rfl rfl rfl rfl) (Hop.store eF rfl rfl rfl rfl rfl rfl) (ArrKeep.put rfl) ?_ | refine Go.condPt rfl (fun _ => ?_) (fun _ => ?_) | refine Go.block ?_ | refine Go.skip ?_ | refine Go.exit rfl ?_
  case refine_2.refine_2 =>
    rename_i q
    have ei : i = l.length := by omega
    subst ei
    rw [hd]
    exact Go.retFm rfl rfl rfl rfl
  refine Go.draw eF hm [n36] [0, 1, 2, 3, 4, 5, 6, 7, 8, 9, 10, 11, 12, 13] dr5_0 ?_
  repeat' first | refine Dr.nil ?_ | refine Dr.pure rfl rfl rfl rfl (by first | exact Want.no rfl | exact Want.tT rfl rfl rfl rfl | exact Want.fF rfl rfl rfl rfl) (by first | exact Hop.move rfl rfl | exact Hop.assign rfl rfl | exact Hop.pickT rfl rfl rfl | exact Hop.pickF rfl rfl rfl | exact Hop.neq rfl rfl rfl | exact Hop.eqS rfl rfl rfl | exact Hop.faP eF rfl rfl rfl rfl rfl rfl rfl | exact Hop.idx eF rfl rfl rfl rfl rfl rfl rfl (fun _ => rfl) (by omega) | exact Hop.ldRG eF rfl rfl rfl rfl rfl | exact Hop.ldP eF rfl rfl rfl rfl rfl rfl rfl | exact Hop.ldPG eF rfl rfl rfl rfl rfl rfl rfl) ?_ | refine Dr.light rfl rfl rfl rfl (by first | exact Want.no rfl | exact Want.tT rfl rfl rfl rfl | exact Want.fF rfl rfl rfl rfl) (by first | exact Hop.ldRG eF rfl rfl rfl rfl rfl | exact Hop.ldP eF rfl rfl rfl rfl rfl rfl rfl | exact Hop.ldPG eF rfl rfl rfl rfl rfl rfl rfl) ?_ | refine Dr.skip rfl rfl rfl (by first | exact Want.fT rfl rfl rfl rfl | exact Want.tF rfl rfl rfl rfl | exact Want.und rfl rfl rfl rfl) ?_ | refine Dr.gP rfl rfl (fun _ => ?_) (fun _ => ?_) | refine Dr.call rfl rfl rfl rfl (by first | exact Want.no rfl | exact Want.tT rfl rfl rfl rfl | exact Want.fF rfl rfl rfl rfl) rfl rfl rfl rfl (by first | exact pans_hd (_, _) rfl rfl) ?_
  repeat' first | refine Go.seq ?_ | refine Go.region rfl ?_ | refine Ops.nil ?_ | refine Ops.weakAt eF 4 rfl rfl (by first | exact Want.no rfl | exact Want.tT rfl rfl rfl rfl | exact Want.fF rfl rfl rfl rfl) (Hop.assign rfl rfl) (weak_nil 1) ?_ | refine Ops.weakAt eF 5 rfl rfl (by first | exact Want.no rfl | exact Want.tT rfl rfl rfl rfl | exact Want.fF rfl rfl rfl rfl) (Hop.assign rfl rfl) (weak_nil 3) ?_ | refine Ops.val eF rfl rfl (by first | exact Want.no rfl | exact Want.tT rfl rfl rfl rfl | exact Want.fF rfl rfl rfl rfl) (by first | exact Hop.move rfl rfl | exact Hop.assign rfl rfl | exact Hop.not rfl rfl | exact Hop.add rfl rfl rfl (by omega)) ?_ | refine Go.condF rfl ?_ | refine Go.condNt rfl (fun _ => ?_) (fun _ => ?_) | refine Go.exit rfl ?_
  case refine_2.refine_1.refine_1.refine_2.refine_2 => rename_i c3; exact absurd c3.1 (Nat.not_lt_zero _)
  case refine_2.refine_1.refine_2.refine_2 => rename_i c3; exact absurd c3.1 (Nat.not_lt_zero _)
  · rename_i c1 c2
    rw [goG_none (i := i + 1) ((goG_succ hd).trans (stepG_a c1 c2)) (by omega)]
    exact Go.retFm rfl rfl rfl rfl
  · rename_i c1 c2 c3
    exact Go.toQ (ih (i + 1) ⟨by omega, (goG_succ hd).trans (stepG_b (fun h => h.2 c2) c3)⟩ (by omega)) rfl eF.g ⟨rfl, rfl, rfl, rfl, rfl, rfl, trivial⟩ rfl rfl trivial trivial rfl rfl
  · rename_i c1 c3
    exact Go.toQ (ih (i + 1) ⟨by omega, (goG_succ hd).trans (stepG_b (fun h => c1 h.1) c3)⟩ (by omega)) rfl eF.g ⟨rfl, rfl, rfl, rfl, rfl, rfl, trivial⟩ rfl rfl trivial trivial rfl rfl
theorem k5 (row : List Va) (l : List Ag) (h1 : row.length ≤ 4000) (h2 : l.length ≤ 4000) (hx : ∀ i, (l.getD i default).x.length ≤ 2000000) : KOk cF 5 [rowA row, argsA l] (fitG row l) := by
  have k1 := k15 [argC l] (by rw [cnt_argC]; omega) (ok_argC hx)
  rw [vars_argC] at k1
  unfold fitG
  have hvl : (VarsG (argV l)).length ≤ 4000 := by
    rw [vars_eq]
    have := putN_len (argV l) (argV l).length
    have := argV_len l
    omega
  have hvs := (varsG_spec (argV l)).1.at_
  generalize VarsG (argV l) = vs at *
  by_cases hlen : row.length = l.length
  · rw [if_pos hlen]
    by_cases hv0 : vs.length = 0
    · exact k5z row l vs h1 h2 k1 hvl hvs hlen hv0
    · exact k5p row l vs h1 h2 k1 hvl hvs hlen hv0
  · rw [if_neg hlen]
    refine KOk.of cF_ok eF.g Try.func5 rfl (Nat.le_of_ble_eq_true rfl) fun w F => ?_
    repeat' first | refine Go.seq ?_ | refine Go.region rfl ?_ | refine Ops.nil ?_ | refine Ops.weakAt eF 4 rfl rfl (by first | exact Want.no rfl | exact Want.tT rfl rfl rfl rfl | exact Want.fF rfl rfl rfl rfl) (Hop.assign rfl rfl) (weak_nil 1) ?_ | refine Ops.weakAt eF 5 rfl rfl (by first | exact Want.no rfl | exact Want.tT rfl rfl rfl rfl | exact Want.fF rfl rfl rfl rfl) (Hop.assign rfl rfl) (weak_nil 3) ?_ | refine Ops.val eF rfl rfl (by first | exact Want.no rfl | exact Want.tT rfl rfl rfl rfl | exact Want.fF rfl rfl rfl rfl) (by first | exact Hop.move rfl rfl | exact Hop.assign rfl rfl | exact Hop.neq rfl rfl rfl | exact Hop.lenD eF rfl rfl rfl rfl rfl rfl rfl | exact Hop.build eF rfl rfl rfl rfl rfl rfl rfl) ?_ | refine Ops.data eF rfl rfl (by first | exact Want.no rfl | exact Want.tT rfl rfl rfl rfl | exact Want.fF rfl rfl rfl rfl) rfl (Hop.bslice eF rfl rfl rfl rfl rfl rfl rfl rfl rfl rfl rfl) rfl rfl ?_ | refine Go.condNt rfl (fun _ => ?_) (fun _ => ?_) | refine Go.skip ?_ | refine Go.retF rfl ?_ rfl
    case neg.refine_1 => rfl
    case neg.refine_2 => rename_i q; exact absurd (by omega) hlen
end Go.Px.Fx
end
/- FxV -/
section
set_option linter.unusedVariables false
set_option linter.unusedSimpArgs false
set_option maxHeartbeats 4000000
namespace Go.Px.Fx
open Go.Proofs
attribute [local irreducible] Go.Px.KOk
noncomputable def n19 : Ent cF := ⟨19, {p : Va × Va // p.1.s.length ≤ 2000000 ∧ p.2.s.length ≤ 2000000}, fun p => [.agg (encVa p.1.1), .agg (encVa p.1.2)], fun p => .int .i64 (cmpVa p.1.1 p.1.2), fun p => k30 _ _ p.2.1 p.2.2, fun _ => rfl, fun a b h => by
  have h := pair_eq h; rw [encVa_eq (agg_eq h.1), encVa_eq (agg_eq h.2)]⟩
abbrev q19 (a b : Va) (ha : a.s.length ≤ 2000000) (hb : b.s.length ≤ 2000000) : {p : Va × Va // p.1.s.length ≤ 2000000 ∧ p.2.s.length ≤ 2000000} := ⟨(a, b), ha, hb⟩
/-- what a variable says by now (none: it failed) -/
noncomputable def stepR (x : Str) (row : List Va) (l : List Ag) (i : Nat) (o : Option Va) : Option (Option Va) :=
  if (l.getD i default).x ≠ x then some o
  else match o with
    | none => if cmpVa (row.getD i default) (row.getD i default) ≠ 0 then none else some (some (row.getD i default))
    | some v => if cmpVa v (row.getD i default) ≠ 0 then none else some (some v)
noncomputable def inR (x : Str) (row : List Va) (l : List Ag) : Nat → Option (Option Va)
  | 0 => some none
  | i + 1 => (inR x row l i).bind (stepR x row l i)
noncomputable def outR (vs : List Str) (row : List Va) (l : List Ag) : Nat → Option (List Va)
  | 0 => some []
  | k + 1 => (outR vs row l k).bind fun s => (inR (vs.getD k default) row l l.length).map fun o => s ++ o.toList
theorem inR_none {x : Str} {row : List Va} {l : List Ag} {i : Nat} (h : inR x row l i = none) : ∀ {j : Nat}, i ≤ j → inR x row l j = none
  | 0, hj => by rw [show (0 : Nat) = i by omega]; exact h
  | j + 1, hj => by
    by_cases q : i = j + 1
    · rw [← q]; exact h
    · have := inR_none h (j := j) (by omega)
      simp only [inR, this, Option.bind_none]
theorem outR_none {vs : List Str} {row : List Va} {l : List Ag} {i : Nat} (h : outR vs row l i = none) : ∀ {j : Nat}, i ≤ j → outR vs row l j = none
  | 0, hj => by rw [show (0 : Nat) = i by omega]; exact h
  | j + 1, hj => by
    by_cases q : i = j + 1
    · rw [← q]; exact h
    · have := outR_none h (j := j) (by omega)
      simp only [outR, this, Option.bind_none]
theorem inR_met {x : Str} {row : List Va} {l : List Ag} : ∀ {n : Nat} {o : Option Va}, inR x row l n = some o → (∃ i, i < n ∧ (l.getD i default).x = x) → ∃ v, o = some v
  | 0, o, _, ⟨i, hi, _⟩ => by omega
  | n + 1, o, h, ⟨i, hi, e⟩ => by
    simp only [inR, Option.bind_eq_some_iff] at h
    obtain ⟨o', h1, h2⟩ := h
    unfold stepR at h2
    by_cases q : (l.getD n default).x = x
    · rw [if_neg (fun h => h q)] at h2
      cases o' with
      | none => simp only [] at h2; split at h2 <;> cases h2; exact ⟨_, rfl⟩
      | some v => simp only [] at h2; split at h2 <;> cases h2; exact ⟨_, rfl⟩
    · rw [if_pos q] at h2
      cases h2
      exact inR_met h1 ⟨i, by by_cases q2 : i = n; exact absurd (q2 ▸ e) q; omega, e⟩
/-- constants stand where they are said -/
def CstP (row : List Va) (l : List Ag) : Prop := ∀ i, i < l.length → (l.getD i default).x = [] → cmpVa (l.getD i default).v (row.getD i default) = 0
/-- what a call of the document's Fits answers -/
noncomputable def fitR (row : List Va) (l : List Ag) : AV :=
  match (if row.length = l.length then (bif bd (CstP row l) then outR (VarsP [argC l]) row l (VarsP [argC l]).length else none) else none) with
  | some s => .tup [strsA (VarsP [argC l]), rowA s, .bool true]
  | none => .tup [strsA [], rowA [], .bool false]
theorem outR_len {vs : List Str} {row : List Va} {l : List Ag} (hmet : ∀ k, k < vs.length → ∃ i, i < l.length ∧ (l.getD i default).x = vs.getD k default) : ∀ {k : Nat} {s : List Va}, k ≤ vs.length → outR vs row l k = some s → s.length = k
  | 0, s, _, h => by cases h; rfl
  | k + 1, s, hk, h => by
    simp only [outR, Option.bind_eq_some_iff, Option.map_eq_some_iff] at h
    obtain ⟨s', h1, o, h2, rfl⟩ := h
    obtain ⟨v, rfl⟩ := inR_met h2 (hmet k (by omega))
    rw [List.length_append, outR_len hmet (by omega) h1]; rfl
theorem inR_succ {x : Str} {row : List Va} {l : List Ag} {i : Nat} {o : Option Va} (h : inR x row l i = some o) : inR x row l (i + 1) = stepR x row l i o := by simp only [inR, h, Option.bind_some]
theorem stepR_no {x : Str} {row : List Va} {l : List Ag} {i : Nat} {o : Option Va} (h : ¬ (l.getD i default).x = x) : stepR x row l i o = some o := by unfold stepR; rw [if_pos h]
theorem stepR_n {x : Str} {row : List Va} {l : List Ag} {i : Nat} (h : (l.getD i default).x = x) (hc : cmpVa (row.getD i default) (row.getD i default) = 0) : stepR x row l i none = some (some (row.getD i default)) := by
  unfold stepR; rw [if_neg (fun q => q h)]; simp only []; rw [if_neg (fun q => q hc)]
theorem stepR_nf {x : Str} {row : List Va} {l : List Ag} {i : Nat} (h : (l.getD i default).x = x) (hc : ¬ cmpVa (row.getD i default) (row.getD i default) = 0) : stepR x row l i none = none := by
  unfold stepR; rw [if_neg (fun q => q h)]; simp only []; rw [if_pos hc]
theorem stepR_s {x : Str} {row : List Va} {l : List Ag} {i : Nat} {v : Va} (h : (l.getD i default).x = x) (hc : cmpVa v (row.getD i default) = 0) : stepR x row l i (some v) = some (some v) := by
  unfold stepR; rw [if_neg (fun q => q h)]; simp only []; rw [if_neg (fun q => q hc)]
theorem stepR_sf {x : Str} {row : List Va} {l : List Ag} {i : Nat} {v : Va} (h : (l.getD i default).x = x) (hc : ¬ cmpVa v (row.getD i default) = 0) : stepR x row l i (some v) = none := by
  unfold stepR; rw [if_neg (fun q => q h)]; simp only []; rw [if_pos hc]
/-- it failed on the way -/
theorem out_fail {vs : List Str} {row : List Va} {l : List Ag} {k j : Nat} {s : List Va} (hs : outR vs row l k = some s) (hk : k < vs.length) (hj : j ≤ l.length) (hf : inR (vs.getD k default) row l j = none) : (bif bd (CstP row l) then outR vs row l vs.length else none) = none := by
  have : outR vs row l (k + 1) = none := by simp only [outR, hs, Option.bind_some, inR_none hf hj, Option.map_none]
  rw [outR_none this (by omega)]
  cases bd (CstP row l) <;> rfl
noncomputable def r6_0 : List Oper := ((drawn (Try.f6.body.getD .skip))[0]?).getD []
theorem dr6_0 : chkOrd cF r6_0 [0, 1, 2, 3, 4, 5, 6, 7, 8, 9] = true := by kernel_rfl
noncomputable def r6_1 : List Oper := ((drawn (Try.f6.body.getD .skip))[1]?).getD []
theorem dr6_1 : chkOrd cF r6_1 [0, 1, 2, 3, 4, 5, 6, 7, 8, 9] = true := by kernel_rfl
noncomputable def r6_2 : List Oper := ((drawn (Try.f6.body.getD .skip))[2]?).getD []
theorem dr6_2 : chkOrd cF r6_2 [0, 1, 2, 3, 4, 5, 6, 7, 8, 9, 10] = true := by kernel_rfl
theorem k6p (row : List Va) (l : List Ag) (vs : List Str) (h1 : row.length ≤ 4000) (h2 : l.length ≤ 4000) (hvb : ∀ i, (l.getD i default).v.s.length ≤ 2000000) (hrb : ∀ i, (row.getD i default).s.length ≤ 2000000) (k1 : KOk cF 18 [clsA [argC l]] (strsA vs)) (hvl : vs.length ≤ 4000) (hmet : ∀ k, k < vs.length → ∃ i, i < l.length ∧ (l.getD i default).x = vs.getD k default) (hlen : row.length = l.length) :
    KOk cF 6 [rowA row, argsA l] (match (bif bd (CstP row l) then outR vs row l vs.length else none) with
  | some s => .tup [strsA vs, rowA s, .bool true]
  | none => .tup [strsA [], rowA [], .bool false]) := by
  refine KOk.of cF_ok eF.g Try.func6 rfl (Nat.le_of_ble_eq_true rfl) fun w F => ?_
  repeat' first | refine Go.seq ?_ | refine Go.region rfl ?_ | refine Ops.nil ?_ | refine Ops.weakAt eF 21 rfl rfl (by first | exact Want.no rfl | exact Want.tT rfl rfl rfl rfl | exact Want.fF rfl rfl rfl rfl) (by exact Hop.build eF rfl rfl rfl rfl rfl rfl rfl) (weakC l) ?_ | refine Ops.val eF rfl rfl (by first | exact Want.no rfl | exact Want.tT rfl rfl rfl rfl | exact Want.fF rfl rfl rfl rfl) (by first | exact Hop.move rfl rfl | exact Hop.assign rfl rfl | exact Hop.neq rfl rfl rfl | exact Hop.lenD eF rfl rfl rfl rfl rfl rfl rfl) ?_ | refine Ops.call eF rfl rfl (by first | exact Want.no rfl | exact Want.tT rfl rfl rfl rfl | exact Want.fF rfl rfl rfl rfl) rfl rfl rfl rfl (k1) rfl ?_ | refine Ops.data eF rfl rfl (by first | exact Want.no rfl | exact Want.tT rfl rfl rfl rfl | exact Want.fF rfl rfl rfl rfl) rfl (Hop.bslice eF rfl rfl rfl rfl rfl rfl rfl rfl rfl rfl rfl) rfl rfl ?_ | refine Go.condNt rfl (fun _ => ?_) (fun _ => ?_) | refine Go.block ?_ | refine Go.skip ?_
  case refine_1 => rename_i q; exact absurd (by omega) q
  refine Go.change (Chg.tokAt 0 8 29 3 rfl rfl) ?_
  refine Go.toHQ (N := 1) (bs := [.arr 29 3 0 []]) (L' := [(0, rowA row), (1, argsA l), (7, strsA vs), (8, .own 0 0 3), (9, .int .i64 0)]) ?_ rfl eF.g ⟨rfl, rfl, rfl, rfl, rfl, trivial⟩ rfl rfl ⟨.inr rfl, trivial⟩ ⟨trivial, trivial⟩ rfl rfl
  refine Go.loop (fun p : Nat × List Va => [(0, rowA row), (1, argsA l), (7, strsA vs), (8, .own 0 p.2.length 3), (9, .int .i64 p.1)]) (fun p => hq 1 [.arr 29 3 p.2.length (p.2.flatMap encVa)]) (fun p => p.1 ≤ vs.length ∧ outR vs row l p.1 = some p.2) (fun p => vs.length - p.1) (0, []) ⟨Nat.zero_le _, rfl⟩ ⟨rfl, rfl, rfl, rfl, rfl, trivial⟩ rfl (fun p hP ih => ?_)
  obtain ⟨k, s⟩ := p
  obtain ⟨hk, hs⟩ := hP
  simp only [] at hk hs ih ⊢
  have hsl := outR_len hmet hk hs
  repeat' first | refine Go.seq ?_ | refine Go.region rfl ?_ | refine Ops.nil ?_ | refine Ops.val eF rfl rfl (by first | exact Want.no rfl | exact Want.tT rfl rfl rfl rfl | exact Want.fF rfl rfl rfl rfl) (by first | exact Hop.move rfl rfl | exact Hop.assign rfl rfl | exact Hop.lss rfl rfl rfl | exact Hop.lenD eF rfl rfl rfl rfl rfl rfl rfl) ?_ | refine Go.condPt rfl (fun _ => ?_) (fun _ => ?_) | refine Go.block ?_ | refine Go.skip ?_ | refine Go.exit rfl ?_
  case refine_2.refine_2 =>
    rename_i q
    have ek : k = vs.length := by omega
    rw [ek] at hs
    refine Go.loop (fun i : Nat => [(0, rowA row), (1, argsA l), (7, strsA vs), (8, .own 0 s.length 3), (13, .int .i64 i)]) (fun _ => hq 1 [.arr 29 3 s.length (s.flatMap encVa)]) (fun i => i ≤ l.length ∧ ∀ j, j < i → (l.getD j default).x = [] → cmpVa (l.getD j default).v (row.getD j default) = 0) (fun i => l.length - i) 0 ⟨Nat.zero_le _, fun j hj => by omega⟩ ⟨rfl, rfl, rfl, rfl, rfl, trivial⟩ rfl (fun i hP ihi => ?_)
    obtain ⟨hi, hc⟩ := hP
    have hri := hrb (i : Int).toNat
    have hvi := hvb (i : Int).toNat
    have hir : i < l.length → i < row.length := fun q => by omega
    repeat' first | refine Go.seq ?_ | refine Go.region rfl ?_ | refine Ops.nil ?_ | refine Ops.frzMv eF 5 (show AV.rsl s.length 3 (s.flatMap encVa) = rowA s from rfl) rfl rfl (by first | exact Want.no rfl | exact Want.tT rfl rfl rfl rfl | exact Want.fF rfl rfl rfl rfl) (by first | exact Hop.move rfl rfl | exact Hop.assign rfl rfl) rfl (by repeat' first | exact trivial | refine And.intro ?_ ?_ | exact .inr trivial | exact .inr (ind_row rfl rfl) | exact .inr rfl | exact .inl rfl | exact .inr (hindL _ _)) rfl rfl rfl rfl ?_ | refine Ops.val eF rfl rfl (by first | exact Want.no rfl | exact Want.tT rfl rfl rfl rfl | exact Want.fF rfl rfl rfl rfl) (by first | exact Hop.move rfl rfl | exact Hop.assign rfl rfl | exact Hop.lss rfl rfl rfl | exact Hop.lenD eF rfl rfl rfl rfl rfl rfl rfl) ?_ | refine Go.condPt rfl (fun _ => ?_) (fun _ => ?_) | refine Go.block ?_ | refine Go.skip ?_ | refine Go.exit rfl ?_
    case refine_2 =>
      have hC : CstP row l := fun j hj => hc j (by omega)
      rw [bd_of hC, cond_true, hs]
      exact Go.retFm rfl rfl rfl rfl
    refine Go.draw eF hm [n19] [0, 1, 2, 3, 4, 5, 6, 7, 8, 9, 10] dr6_2 ?_
    repeat' first | refine Dr.nil ?_ | refine Dr.pure rfl rfl rfl rfl (by first | exact Want.no rfl | exact Want.tT rfl rfl rfl rfl | exact Want.fF rfl rfl rfl rfl) (by first | exact Hop.move rfl rfl | exact Hop.assign rfl rfl | exact Hop.faR eF rfl rfl rfl rfl rfl rfl rfl | exact Hop.idx eF rfl rfl rfl rfl rfl rfl rfl (fun _ => rfl) (by omega) | exact Hop.ldRG eF rfl rfl rfl rfl rfl) ?_ | refine Dr.light rfl rfl rfl rfl (by first | exact Want.no rfl | exact Want.tT rfl rfl rfl rfl | exact Want.fF rfl rfl rfl rfl) (by first | exact Hop.ldRG eF rfl rfl rfl rfl rfl) ?_ | refine Dr.call rfl rfl rfl rfl (by first | exact Want.no rfl | exact Want.tT rfl rfl rfl rfl | exact Want.fF rfl rfl rfl rfl) rfl rfl rfl rfl (by first | exact pans_hd (q19 (l.getD (i : Int).toNat default).v (row.getD (i : Int).toNat default) hvi hri) rfl rfl) ?_
    repeat' first | refine Go.seq ?_ | refine Go.region rfl ?_ | refine Ops.nil ?_ | refine Ops.weakAt eF 4 rfl rfl (by first | exact Want.no rfl | exact Want.tT rfl rfl rfl rfl | exact Want.fF rfl rfl rfl rfl) (Hop.assign rfl rfl) (weak_nil 1) ?_ | refine Ops.weakAt eF 5 rfl rfl (by first | exact Want.no rfl | exact Want.tT rfl rfl rfl rfl | exact Want.fF rfl rfl rfl rfl) (Hop.assign rfl rfl) (weak_nil 3) ?_ | refine Ops.val eF rfl rfl (by first | exact Want.no rfl | exact Want.tT rfl rfl rfl rfl | exact Want.fF rfl rfl rfl rfl) (by first | exact Hop.move rfl rfl | exact Hop.assign rfl rfl | exact Hop.pickT rfl rfl rfl | exact Hop.pickF rfl rfl rfl | exact Hop.neq rfl rfl rfl | exact Hop.eqS rfl rfl rfl | exact Hop.add rfl rfl rfl (by omega) | exact Hop.faR eF rfl rfl rfl rfl rfl rfl rfl | exact Hop.idx eF rfl rfl rfl rfl rfl rfl rfl (fun _ => rfl) (by omega) | exact Hop.ldR eF rfl rfl rfl rfl rfl) ?_ | refine Ops.skip rfl rfl (by first | exact Want.fT rfl rfl rfl rfl | exact Want.tF rfl rfl rfl rfl | exact Want.und rfl rfl rfl rfl) ?_ | refine Ops.gP rfl rfl (fun _ => ?_) (fun _ => ?_) | refine Go.condF rfl ?_ | refine Go.condNt rfl (fun _ => ?_) (fun _ => ?_) | refine Go.unblk ?_ | refine Go.skip ?_
    · rename_i c1 c2
      have hC : ¬ CstP row l := fun h => c2 (h i (by omega) c1)
      rw [bd_no hC, cond_false]
      exact Go.retFm rfl rfl rfl rfl
    · rename_i c1 c2
      exact Go.toQ (ihi (i + 1) ⟨by show i + 1 ≤ _; omega, fun j hj => by
        rcases lt_succ_cases hj with h | rfl
        · exact hc j h
        · exact fun _ => c2⟩ (by show l.length - (i + 1) < _; omega)) rfl eF.g ⟨rfl, rfl, rfl, rfl, rfl, trivial⟩ rfl rfl ⟨.inr rfl, trivial⟩ ⟨trivial, trivial⟩ rfl rfl
    · rename_i c1
      exact Go.toQ (ihi (i + 1) ⟨by show i + 1 ≤ _; omega, fun j hj => by
        rcases lt_succ_cases hj with h | rfl
        · exact hc j h
        · exact fun h0 => absurd h0 c1⟩ (by show l.length - (i + 1) < _; omega)) rfl eF.g ⟨rfl, rfl, rfl, rfl, rfl, trivial⟩ rfl rfl ⟨.inr rfl, trivial⟩ ⟨trivial, trivial⟩ rfl rfl
  rename_i hkv
  refine Go.loop (fun p : Nat × Option Va => [(0, rowA row), (1, argsA l), (7, strsA vs), (8, .own 0 (s ++ p.2.toList).length 3), (9, .int .i64 k), (10, .bool (match p.2 with | none => true | some _ => false)), (11, .int .i64 p.1)]) (fun p => hq 1 [.arr 29 3 (s ++ p.2.toList).length ((s ++ p.2.toList).flatMap encVa)]) (fun p => p.1 ≤ l.length ∧ inR (vs.getD k default) row l p.1 = some p.2 ∧ ∀ v, p.2 = some v → v.s.length ≤ 2000000) (fun p => l.length - p.1) (0, none) ⟨Nat.zero_le _, rfl, fun v q => by cases q⟩ ⟨rfl, rfl, rfl, by simp only [Option.toList, List.append_nil]; rfl, rfl, rfl, rfl, trivial⟩ (by simp only [Option.toList, List.append_nil]) (fun p hP ihj => ?_)
  obtain ⟨j, o⟩ := p
  obtain ⟨hj, ho, hov⟩ := hP
  simp only [] at hj ho hov ihj ⊢
  have hrj := hrb (j : Int).toNat
  repeat' first | refine Go.seq ?_ | refine Go.region rfl ?_ | refine Ops.nil ?_ | refine Ops.val eF rfl rfl (by first | exact Want.no rfl | exact Want.tT rfl rfl rfl rfl | exact Want.fF rfl rfl rfl rfl) (by first | exact Hop.move rfl rfl | exact Hop.assign rfl rfl | exact Hop.lss rfl rfl rfl | exact Hop.add rfl rfl rfl (by omega) | exact Hop.lenD eF rfl rfl rfl rfl rfl rfl rfl) ?_ | refine Go.condPt rfl (fun _ => ?_) (fun _ => ?_) | refine Go.block ?_ | refine Go.unblk ?_ | refine Go.skip ?_ | refine Go.exit rfl ?_
  case refine_2.refine_1.refine_2 =>
    rename_i q
    have ej : j = l.length := by omega
    subst ej
    exact Go.toQ (ih (k + 1, s ++ o.toList) ⟨by show k + 1 ≤ _; omega, by show outR vs row l (k + 1) = _; simp only [outR, hs, Option.bind_some, ho, Option.map_some]⟩ (by show vs.length - (k + 1) < _; omega)) rfl eF.g ⟨rfl, rfl, rfl, rfl, rfl, trivial⟩ rfl rfl ⟨.inr rfl, trivial⟩ ⟨trivial, trivial⟩ rfl rfl
  have hjl : j < row.length := by omega
  cases o with
  | none =>
    simp only [Option.toList, List.append_nil] at ihj ⊢
    refine Go.draw eF hm [] [0, 1, 2, 3, 4, 5, 6, 7, 8, 9] dr6_0 ?_
    repeat' first | refine Dr.nil ?_ | refine Dr.pure rfl rfl rfl rfl (by first | exact Want.no rfl | exact Want.tT rfl rfl rfl rfl | exact Want.fF rfl rfl rfl rfl) (by first | exact Hop.move rfl rfl | exact Hop.neS rfl rfl rfl | exact Hop.faR eF rfl rfl rfl rfl rfl rfl rfl | exact Hop.idx eF rfl rfl rfl rfl rfl rfl rfl (fun _ => rfl) (by omega) | exact Hop.ldR eF rfl rfl rfl rfl rfl) ?_ | refine Dr.light rfl rfl rfl rfl (by first | exact Want.no rfl | exact Want.tT rfl rfl rfl rfl | exact Want.fF rfl rfl rfl rfl) (by first | exact Hop.ldR eF rfl rfl rfl rfl rfl) ?_
    repeat' first | refine Go.seq ?_ | refine Go.region rfl ?_ | refine Ops.nil ?_ | refine Ops.val eF rfl rfl (by first | exact Want.no rfl | exact Want.tT rfl rfl rfl rfl | exact Want.fF rfl rfl rfl rfl) (by first | exact Hop.move rfl rfl | exact Hop.assign rfl rfl | exact Hop.add rfl rfl rfl (by omega) | exact Hop.idx eF rfl rfl rfl rfl rfl rfl rfl (fun _ => rfl) (by omega) | exact Hop.ldRG eF rfl rfl rfl rfl rfl) ?_ | refine Ops.data eF rfl rfl (by first | exact Want.no rfl | exact Want.tT rfl rfl rfl rfl | exact Want.fF rfl rfl rfl rfl) rfl (Hop.bslice eF rfl rfl rfl rfl rfl rfl rfl rfl rfl rfl rfl) rfl rfl ?_ | refine Ops.appendE eF rfl rfl (by first | exact Want.no rfl | exact Want.tT rfl rfl rfl rfl | exact Want.fF rfl rfl rfl rfl) rfl rfl rfl rfl rfl rfl rfl rfl rfl rfl rfl rfl rfl rfl rfl rfl (by repeat' first | exact trivial | refine And.intro ?_ ?_ | exact .inr trivial | exact .inr (ind_row rfl rfl) | exact .inr rfl | exact .inl rfl | exact .inr (hindL _ _)) rfl rfl rfl rfl rfl (by first | rfl | exact ones_flat (fun _ => rfl) _) (by omega) ?_ | refine Go.condT rfl ?_ | refine Go.condNt rfl (fun _ => ?_) (fun _ => ?_) | refine Go.skip ?_ | refine Go.exit rfl ?_
    case refine_2.refine_1.refine_1.none.refine_1 =>
      rename_i q
      have g := ihj (j + 1, none) ⟨by show j + 1 ≤ _; omega, (inR_succ ho).trans (stepR_no q), hov⟩ (by show l.length - (j + 1) < _; omega)
      simp only [List.append_nil] at g
      exact Go.toQ g rfl eF.g ⟨rfl, rfl, rfl, rfl, rfl, rfl, rfl, trivial⟩ rfl rfl ⟨.inr rfl, trivial⟩ ⟨trivial, trivial⟩ rfl rfl
    rename_i q
    have hl1 : (s ++ [row.getD (j : Int).toNat default]).length = s.length + 1 := by simp
    have hgv : (s ++ [row.getD (j : Int).toNat default]).getD (k : Int).toNat default = row.getD (j : Int).toNat default := by rw [Int.toNat_natCast, ← hsl]; simp [List.getD_eq_getElem?_getD]
    have hb1 : ((s ++ [row.getD (j : Int).toNat default]).getD (k : Int).toNat default).s.length ≤ 2000000 := by rw [hgv]; exact hrj
    have hfm : (s ++ [row.getD (j : Int).toNat default]).flatMap encVa = s.flatMap encVa ++ encVa (row.getD (j : Int).toNat default) := by simp
    refine Go.toHQ (N := 1) (bs := [.arr 29 3 (s.length + 1) (s.flatMap encVa ++ encVa (row.getD (j : Int).toNat default))]) (L' := [(0, rowA row), (1, argsA l), (7, strsA vs), (8, .own 0 (s.length + 1) 3), (9, .int .i64 k), (10, .bool false), (11, .int .i64 j)]) ?_ rfl eF.g ⟨rfl, rfl, rfl, rfl, rfl, rfl, rfl, trivial⟩ rfl rfl ⟨.inr rfl, trivial⟩ ⟨trivial, trivial⟩ rfl rfl
    rw [← hfm]
    refine Go.draw eF hm [n19] [0, 1, 2, 3, 4, 5, 6, 7, 8, 9] dr6_1 ?_
    repeat' first | refine Dr.nil ?_ | refine Dr.pure rfl rfl rfl rfl (by first | exact Want.no rfl | exact Want.tT rfl rfl rfl rfl | exact Want.fF rfl rfl rfl rfl) (by first | exact Hop.move rfl rfl | exact Hop.assign rfl rfl | exact Hop.idx eF rfl rfl rfl rfl rfl rfl rfl (fun _ => rfl) (by omega) | exact Hop.idxO eF rfl rfl rfl rfl rfl rfl rfl (by omega) | exact Hop.ldRG eF rfl rfl rfl rfl rfl) ?_ | refine Dr.light rfl rfl rfl rfl (by first | exact Want.no rfl | exact Want.tT rfl rfl rfl rfl | exact Want.fF rfl rfl rfl rfl) (by first | exact Hop.ldRG eF rfl rfl rfl rfl rfl) ?_ | refine Dr.call rfl rfl rfl rfl (by first | exact Want.no rfl | exact Want.tT rfl rfl rfl rfl | exact Want.fF rfl rfl rfl rfl) rfl rfl rfl rfl (by first | exact pans_hd (q19 ((s ++ [row.getD (j : Int).toNat default]).getD (k : Int).toNat default) (row.getD (j : Int).toNat default) hb1 hrj) rfl rfl) ?_ | refine (Dr.light rfl rfl rfl rfl (by first | exact Want.no rfl | exact Want.tT rfl rfl rfl rfl | exact Want.fF rfl rfl rfl rfl) (by exact Hop.ldFG eF rfl rfl rfl rfl rfl rfl rfl (fun _ => rfl) (by omega)) ?_)
    repeat' first | refine Go.seq ?_ | refine Go.region rfl ?_ | refine Ops.nil ?_ | refine Ops.weakAt eF 4 rfl rfl (by first | exact Want.no rfl | exact Want.tT rfl rfl rfl rfl | exact Want.fF rfl rfl rfl rfl) (Hop.assign rfl rfl) (weak_nil 1) ?_ | refine Ops.weakAt eF 5 rfl rfl (by first | exact Want.no rfl | exact Want.tT rfl rfl rfl rfl | exact Want.fF rfl rfl rfl rfl) (Hop.assign rfl rfl) (weak_nil 3) ?_ | refine Ops.val eF rfl rfl (by first | exact Want.no rfl | exact Want.tT rfl rfl rfl rfl | exact Want.fF rfl rfl rfl rfl) (by first | exact Hop.move rfl rfl | exact Hop.assign rfl rfl | exact Hop.neq rfl rfl rfl | exact Hop.add rfl rfl rfl (by omega)) ?_ | refine Go.condNt rfl (fun _ => ?_) (fun _ => ?_) | refine Go.unblk ?_ | refine Go.skip ?_
    · rename_i q2
      have q3 : ¬ cmpVa ((s ++ [row.getD (j : Int).toNat default]).getD (k : Int).toNat default) (row.getD (j : Int).toNat default) = 0 := q2
      rw [hgv] at q3
      rw [out_fail hs (by omega) (j := j + 1) (by omega) ((inR_succ ho).trans (stepR_nf q q3))]
      exact Go.retFm rfl rfl rfl rfl
    · rename_i q2
      have q3 : cmpVa ((s ++ [row.getD (j : Int).toNat default]).getD (k : Int).toNat default) (row.getD (j : Int).toNat default) = 0 := q2
      rw [hgv] at q3
      have g := ihj (j + 1, some (row.getD (j : Int).toNat default)) ⟨by show j + 1 ≤ _; omega, (inR_succ ho).trans (stepR_n q q3), fun v e => by cases e; exact hrj⟩ (by show l.length - (j + 1) < _; omega)
      simp only [Option.toList, List.length_append, List.length_cons, List.length_nil, Nat.zero_add] at g
      exact Go.toQ g rfl eF.g ⟨rfl, rfl, rfl, rfl, rfl, rfl, rfl, trivial⟩ rfl rfl ⟨.inr rfl, trivial⟩ ⟨trivial, trivial⟩ rfl rfl
  | some v =>
    simp only [Option.toList] at ihj ⊢
    have hl1 : (s ++ [v]).length = k + 1 := by simp [hsl]
    have hgv : (s ++ [v]).getD (k : Int).toNat default = v := by rw [Int.toNat_natCast, ← hsl]; simp [List.getD_eq_getElem?_getD]
    have hb1 : ((s ++ [v]).getD (k : Int).toNat default).s.length ≤ 2000000 := by rw [hgv]; exact hov v rfl
    refine Go.draw eF hm [] [0, 1, 2, 3, 4, 5, 6, 7, 8, 9] dr6_0 ?_
    repeat' first | refine Dr.nil ?_ | refine Dr.pure rfl rfl rfl rfl (by first | exact Want.no rfl | exact Want.tT rfl rfl rfl rfl | exact Want.fF rfl rfl rfl rfl) (by first | exact Hop.move rfl rfl | exact Hop.neS rfl rfl rfl | exact Hop.faR eF rfl rfl rfl rfl rfl rfl rfl | exact Hop.idx eF rfl rfl rfl rfl rfl rfl rfl (fun _ => rfl) (by omega) | exact Hop.ldR eF rfl rfl rfl rfl rfl) ?_ | refine Dr.light rfl rfl rfl rfl (by first | exact Want.no rfl | exact Want.tT rfl rfl rfl rfl | exact Want.fF rfl rfl rfl rfl) (by first | exact Hop.ldR eF rfl rfl rfl rfl rfl) ?_
    repeat' first | refine Go.seq ?_ | refine Go.region rfl ?_ | refine Ops.nil ?_ | refine Ops.val eF rfl rfl (by first | exact Want.no rfl | exact Want.tT rfl rfl rfl rfl | exact Want.fF rfl rfl rfl rfl) (by first | exact Hop.move rfl rfl | exact Hop.assign rfl rfl | exact Hop.add rfl rfl rfl (by omega)) ?_ | refine Go.condF rfl ?_ | refine Go.condNt rfl (fun _ => ?_) (fun _ => ?_) | refine Go.skip ?_ | refine Go.exit rfl ?_
    case refine_2.refine_1.refine_1.some.refine_1 =>
      rename_i q
      have g := ihj (j + 1, some v) ⟨by show j + 1 ≤ _; omega, (inR_succ ho).trans (stepR_no q), hov⟩ (by show l.length - (j + 1) < _; omega)
      exact Go.toQ g rfl eF.g ⟨rfl, rfl, rfl, rfl, rfl, rfl, rfl, trivial⟩ rfl rfl ⟨.inr rfl, trivial⟩ ⟨trivial, trivial⟩ rfl rfl
    rename_i q
    refine Go.draw eF hm [n19] [0, 1, 2, 3, 4, 5, 6, 7, 8, 9] dr6_1 ?_
    repeat' first | refine Dr.nil ?_ | refine Dr.pure rfl rfl rfl rfl (by first | exact Want.no rfl | exact Want.tT rfl rfl rfl rfl | exact Want.fF rfl rfl rfl rfl) (by first | exact Hop.move rfl rfl | exact Hop.assign rfl rfl | exact Hop.idx eF rfl rfl rfl rfl rfl rfl rfl (fun _ => rfl) (by omega) | exact Hop.idxO eF rfl rfl rfl rfl rfl rfl rfl (by omega) | exact Hop.ldRG eF rfl rfl rfl rfl rfl) ?_ | refine Dr.light rfl rfl rfl rfl (by first | exact Want.no rfl | exact Want.tT rfl rfl rfl rfl | exact Want.fF rfl rfl rfl rfl) (by first | exact Hop.ldRG eF rfl rfl rfl rfl rfl) ?_ | refine Dr.call rfl rfl rfl rfl (by first | exact Want.no rfl | exact Want.tT rfl rfl rfl rfl | exact Want.fF rfl rfl rfl rfl) rfl rfl rfl rfl (by first | exact pans_hd (q19 ((s ++ [v]).getD (k : Int).toNat default) (row.getD (j : Int).toNat default) hb1 hrj) rfl rfl) ?_ | refine (Dr.light rfl rfl rfl rfl (by first | exact Want.no rfl | exact Want.tT rfl rfl rfl rfl | exact Want.fF rfl rfl rfl rfl) (by exact Hop.ldFG eF rfl rfl rfl rfl rfl rfl rfl (fun _ => rfl) (by omega)) ?_)
    repeat' first | refine Go.seq ?_ | refine Go.region rfl ?_ | refine Ops.nil ?_ | refine Ops.weakAt eF 4 rfl rfl (by first | exact Want.no rfl | exact Want.tT rfl rfl rfl rfl | exact Want.fF rfl rfl rfl rfl) (Hop.assign rfl rfl) (weak_nil 1) ?_ | refine Ops.weakAt eF 5 rfl rfl (by first | exact Want.no rfl | exact Want.tT rfl rfl rfl rfl | exact Want.fF rfl rfl rfl rfl) (Hop.assign rfl rfl) (weak_nil 3) ?_ | refine Ops.val eF rfl rfl (by first | exact Want.no rfl | exact Want.tT rfl rfl rfl rfl | exact Want.fF rfl rfl rfl rfl) (by first | exact Hop.move rfl rfl | exact Hop.assign rfl rfl | exact Hop.neq rfl rfl rfl | exact Hop.add rfl rfl rfl (by omega)) ?_ | refine Go.condNt rfl (fun _ => ?_) (fun _ => ?_) | refine Go.unblk ?_ | refine Go.skip ?_
    · rename_i q2
      have q3 : ¬ cmpVa ((s ++ [v]).getD (k : Int).toNat default) (row.getD (j : Int).toNat default) = 0 := q2
      rw [hgv] at q3
      rw [out_fail hs (by omega) (j := j + 1) (by omega) ((inR_succ ho).trans (stepR_sf q q3))]
      exact Go.retFm rfl rfl rfl rfl
    · rename_i q2
      have q3 : cmpVa ((s ++ [v]).getD (k : Int).toNat default) (row.getD (j : Int).toNat default) = 0 := q2
      rw [hgv] at q3
      have g := ihj (j + 1, some v) ⟨by show j + 1 ≤ _; omega, (inR_succ ho).trans (stepR_s q q3), hov⟩ (by show l.length - (j + 1) < _; omega)
      exact Go.toQ g rfl eF.g ⟨rfl, rfl, rfl, rfl, rfl, rfl, rfl, trivial⟩ rfl rfl ⟨.inr rfl, trivial⟩ ⟨trivial, trivial⟩ rfl rfl
/-- a call of the document's Fits -/
theorem k6 (row : List Va) (l : List Ag) (h1 : row.length ≤ 4000) (h2 : l.length ≤ 4000) (hx : ∀ i, (l.getD i default).x.length ≤ 2000000) (hvb : ∀ i, (l.getD i default).v.s.length ≤ 2000000) (hrb : ∀ i, (row.getD i default).s.length ≤ 2000000) : KOk cF 6 [rowA row, argsA l] (fitR row l) := by
  have k1 := k18 [argC l] (by rw [cnt_argC]; omega) (ok_argC hx)
  have hv : VarsP [argC l] = putN (argV l) (argV l).length := by unfold VarsP; rw [vars_argC]
  have hvl : (VarsP [argC l]).length ≤ 4000 := by
    rw [hv]
    have := putN_len (argV l) (argV l).length
    have := argV_len l
    omega
  have hmet : ∀ k, k < (VarsP [argC l]).length → ∃ i, i < l.length ∧ (l.getD i default).x = (VarsP [argC l]).getD k default := fun k hk => by
    have h := getD_mem (l := VarsP [argC l]) hk
    generalize (VarsP [argC l]).getD k default = y at h ⊢
    rw [hv, (putN_spec _ _ (Nat.le_refl _)).2, List.take_length] at h
    unfold argV at h
    rw [List.mem_filter, List.mem_map] at h
    obtain ⟨⟨a, ha, rfl⟩, _⟩ := h
    obtain ⟨i, hi, e⟩ := List.getElem_of_mem ha
    refine ⟨i, hi, ?_⟩
    rw [List.getD_eq_getElem?_getD, List.getElem?_eq_getElem hi, ← e]; rfl
  by_cases hlen : row.length = l.length
  · have := k6p row l _ h1 h2 hvb hrb k1 hvl hmet hlen
    unfold fitR
    rw [if_pos hlen]; exact this
  · unfold fitR
    rw [if_neg hlen]
    refine KOk.of cF_ok eF.g Try.func6 rfl (Nat.le_of_ble_eq_true rfl) fun w F => ?_
    repeat' first | refine Go.seq ?_ | refine Go.region rfl ?_ | refine Ops.nil ?_ | refine Ops.weakAt eF 4 rfl rfl (by first | exact Want.no rfl | exact Want.tT rfl rfl rfl rfl | exact Want.fF rfl rfl rfl rfl) (Hop.assign rfl rfl) (weak_nil 1) ?_ | refine Ops.weakAt eF 5 rfl rfl (by first | exact Want.no rfl | exact Want.tT rfl rfl rfl rfl | exact Want.fF rfl rfl rfl rfl) (Hop.assign rfl rfl) (weak_nil 3) ?_ | refine Ops.val eF rfl rfl (by first | exact Want.no rfl | exact Want.tT rfl rfl rfl rfl | exact Want.fF rfl rfl rfl rfl) (by first | exact Hop.move rfl rfl | exact Hop.assign rfl rfl | exact Hop.neq rfl rfl rfl | exact Hop.lenD eF rfl rfl rfl rfl rfl rfl rfl | exact Hop.build eF rfl rfl rfl rfl rfl rfl rfl) ?_ | refine Ops.data eF rfl rfl (by first | exact Want.no rfl | exact Want.tT rfl rfl rfl rfl | exact Want.fF rfl rfl rfl rfl) rfl (Hop.bslice eF rfl rfl rfl rfl rfl rfl rfl rfl rfl rfl rfl) rfl rfl ?_ | refine Go.condNt rfl (fun _ => ?_) (fun _ => ?_) | refine Go.skip ?_ | refine Go.retF rfl ?_ rfl
    case neg.refine_1 => rfl
    case neg.refine_2 => rename_i q; exact absurd (by omega) hlen
end Go.Px.Fx
end
/- FxW -/
section
set_option linter.unusedVariables false
set_option linter.unusedSimpArgs false
namespace Go.Px.Fx
open Go.Proofs
attribute [local irreducible] Go.Px.KOk
theorem cmpI_eq {a b : Int} : cmpI a b = 0 ↔ a = b := by unfold cmpI; split <;> (try split) <;> omega
theorem or3_eq {x y z : Int} : orI [x, y, z] = 0 ↔ x = 0 ∧ y = 0 ∧ z = 0 := by
  simp only [orI]; split <;> (try split) <;> (try split) <;> omega
theorem cB_eq : ∀ {a b : List UInt8}, Lib.compareBytes a b = 0 → a = b
  | [], [], _ => rfl
  | [], _ :: _, h => by simp [Lib.compareBytes] at h
  | _ :: _, [], h => by simp [Lib.compareBytes] at h
  | x :: a, y :: b, h => by
    simp only [Lib.compareBytes] at h
    split at h
    · omega
    · split at h
      · omega
      · rename_i h1 h2
        have : x = y := by
          apply UInt8.toNat_inj.1
          rw [UInt8.lt_iff_toNat_lt] at h1 h2; omega
        rw [this, cB_eq h]
theorem cB_self : ∀ (a : List UInt8), Lib.compareBytes a a = 0
  | [] => rfl
  | x :: a => by
    have h : ¬ x < x := by rw [UInt8.lt_iff_toNat_lt]; omega
    simp only [Lib.compareBytes]
    rw [if_neg h, if_neg h, cB_self a]
theorem cmpVa_eq {a b : Va} : cmpVa a b = 0 ↔ a = b := by
  unfold cmpVa
  rw [or3_eq, cmpI_eq, cmpI_eq]
  constructor
  · rintro ⟨h1, h2, h3⟩
    have := cB_eq h3
    cases a; cases b; simp_all
  · rintro rfl
    exact ⟨rfl, rfl, cB_self _⟩
theorem fst_self {vs : List Str} (h : SrtS vs) {k : Nat} (hk : k < vs.length) : fstN vs (vs.getD k default) = k :=
  fst_at (by omega) (fun j hj => h j k hj hk) (fun _ => List.lt_irrefl _)
/-- what has been met says what the row says -/
theorem goG_some {vs : List Str} {row : List Va} {l : List Ag} (hvs : SrtS vs) : ∀ {n : Nat} {d : Sd}, goG vs row l n = some d →
    (∀ i, i < n → (l.getD i default).x = [] → (l.getD i default).v = row.getD i default) ∧
    (∀ k, k < vs.length → ∀ i, i < n → (l.getD i default).x = vs.getD k default → d.m.getD k default = true ∧ d.s.getD k default = row.getD i default)
  | 0, d, h => ⟨fun i hi => by omega, fun k hk i hi => by omega⟩
  | n + 1, d, h => by
    have hn : ∃ d0, goG vs row l n = some d0 := by
      cases e : goG vs row l n with
      | none => simp [goG, e] at h
      | some d0 => exact ⟨d0, rfl⟩
    obtain ⟨d0, h0⟩ := hn
    obtain ⟨i1, i2⟩ := goG_some hvs h0
    obtain ⟨l1, l2⟩ := goG_len h0
    rw [goG_succ h0] at h
    by_cases a1 : (l.getD n default).x = [] ∧ cmpVa (l.getD n default).v (row.getD n default) ≠ 0
    · rw [stepG_a a1.1 a1.2] at h; cases h
    have i1' : ∀ i, i < n + 1 → (l.getD i default).x = [] → (l.getD i default).v = row.getD i default := fun i hi hx => by
      by_cases e : i = n
      · subst e
        exact Classical.byContradiction fun q => a1 ⟨hx, fun z => q (cmpVa_eq.1 z)⟩
      · exact i1 i (by omega) hx
    refine ⟨i1', ?_⟩
    by_cases a2 : fstN vs (l.getD n default).x < vs.length ∧ vs.getD (fstN vs (l.getD n default).x) default = (l.getD n default).x
    · by_cases a3 : d0.m.getD (fstN vs (l.getD n default).x) default = true ∧ cmpVa (d0.s.getD (fstN vs (l.getD n default).x) default) (row.getD n default) ≠ 0
      · rw [stepG_c a1 a2 a3.1 a3.2] at h; cases h
      · rw [stepG_d a1 a2 a3] at h
        cases h
        intro k hk i hi hx
        generalize hf : fstN vs (l.getD n default).x = f at a2 a3 ⊢
        by_cases e : k = f
        · subst e
          simp only [List.getD_eq_getElem?_getD, List.getElem?_set_self' , List.getElem?_set_self (show k < d0.s.length by omega), List.getElem?_set_self (show k < d0.m.length by omega), Option.getD_some, true_and]
          by_cases e2 : i = n
          · subst e2; rfl
          · obtain ⟨j1, j2⟩ := i2 k hk i (by omega) hx
            have := Classical.byContradiction fun q => a3 ⟨j1, q⟩
            have := cmpVa_eq.1 this
            rw [j2, List.getD_eq_getElem?_getD, List.getD_eq_getElem?_getD] at this
            exact this.symm
        · have en : i ≠ n := fun q => e (by rw [q] at hx; rw [← hf, hx, fst_self hvs hk])
          obtain ⟨j1, j2⟩ := i2 k hk i (by omega) hx
          simp only [List.getD_eq_getElem?_getD] at j1 j2 ⊢
          rw [List.getElem?_set_ne (Ne.symm e), List.getElem?_set_ne (Ne.symm e)]
          exact ⟨j1, j2⟩
    · rw [stepG_b a1 a2] at h
      cases h
      intro k hk i hi hx
      have en : i ≠ n := fun q => a2 (by rw [q] at hx; rw [hx, fst_self hvs hk]; exact ⟨hk, rfl⟩)
      exact i2 k hk i (by omega) hx
/-- what is marked has been met -/
theorem goG_met {vs : List Str} {row : List Va} {l : List Ag} : ∀ {n : Nat} {d : Sd}, goG vs row l n = some d → ∀ k, k < vs.length → d.m.getD k default = true → ∃ i, i < n ∧ (l.getD i default).x = vs.getD k default
  | 0, d, h, k, hk, hm0 => by
    cases h
    simp only [List.getD_eq_getElem?_getD, List.getElem?_replicate, if_pos hk, Option.getD_some] at hm0
    cases hm0
  | n + 1, d, h, k, hk, hm0 => by
    have hn : ∃ d0, goG vs row l n = some d0 := by
      cases e : goG vs row l n with
      | none => simp [goG, e] at h
      | some d0 => exact ⟨d0, rfl⟩
    obtain ⟨d0, h0⟩ := hn
    obtain ⟨l1, l2⟩ := goG_len h0
    rw [goG_succ h0] at h
    have up : d0.m.getD k default = true → ∃ i, i < n + 1 ∧ (l.getD i default).x = vs.getD k default := fun q => by
      obtain ⟨i, hi, e⟩ := goG_met h0 k hk q
      exact ⟨i, by omega, e⟩
    by_cases a1 : (l.getD n default).x = [] ∧ cmpVa (l.getD n default).v (row.getD n default) ≠ 0
    · rw [stepG_a a1.1 a1.2] at h; cases h
    by_cases a2 : fstN vs (l.getD n default).x < vs.length ∧ vs.getD (fstN vs (l.getD n default).x) default = (l.getD n default).x
    · by_cases a3 : d0.m.getD (fstN vs (l.getD n default).x) default = true ∧ cmpVa (d0.s.getD (fstN vs (l.getD n default).x) default) (row.getD n default) ≠ 0
      · rw [stepG_c a1 a2 a3.1 a3.2] at h; cases h
      · rw [stepG_d a1 a2 a3] at h
        cases h
        by_cases e : k = fstN vs (l.getD n default).x
        · exact ⟨n, by omega, by rw [e]; exact a2.2.symm⟩
        · apply up
          simp only [List.getD_eq_getElem?_getD] at hm0 e ⊢
          rw [List.getElem?_set_ne (Ne.symm e)] at hm0
          exact hm0
    · rw [stepG_b a1 a2] at h
      cases h
      exact up hm0
/-- two places of one variable say two things -/
def Odd (vs : List Str) (row : List Va) (l : List Ag) : Prop := ∃ k, k < vs.length ∧ ∃ i j, i < l.length ∧ j < l.length ∧ (l.getD i default).x = vs.getD k default ∧ (l.getD j default).x = vs.getD k default ∧ row.getD i default ≠ row.getD j default
theorem goG_bad {vs : List Str} {row : List Va} {l : List Ag} (hvs : SrtS vs) : ∀ {n : Nat}, n ≤ l.length → goG vs row l n = none → ¬ CstP row l ∨ Odd vs row l
  | 0, _, h => by cases h
  | n + 1, hn, h => by
    cases h0 : goG vs row l n with
    | none => exact goG_bad hvs (by omega) h0
    | some d0 =>
      rw [goG_succ h0] at h
      by_cases a1 : (l.getD n default).x = [] ∧ cmpVa (l.getD n default).v (row.getD n default) ≠ 0
      · exact .inl fun q => a1.2 (q n (by omega) a1.1)
      by_cases a2 : fstN vs (l.getD n default).x < vs.length ∧ vs.getD (fstN vs (l.getD n default).x) default = (l.getD n default).x
      · by_cases a3 : d0.m.getD (fstN vs (l.getD n default).x) default = true ∧ cmpVa (d0.s.getD (fstN vs (l.getD n default).x) default) (row.getD n default) ≠ 0
        · obtain ⟨i, hi, e⟩ := goG_met h0 _ a2.1 a3.1
          have := ((goG_some hvs h0).2 _ a2.1 i hi e).2
          refine .inr ⟨_, a2.1, i, n, by omega, by omega, e, a2.2.symm, fun q => a3.2 ?_⟩
          rw [this, q]; exact cmpVa_eq.2 rfl
        · rw [stepG_d a1 a2 a3] at h; cases h
      · rw [stepG_b a1 a2] at h; cases h
theorem inR_some {x : Str} {row : List Va} {l : List Ag} : ∀ {n : Nat} {o : Option Va}, inR x row l n = some o → (∀ i, i < n → (l.getD i default).x = x → o = some (row.getD i default))
  | 0, o, _ => fun i hi => by omega
  | n + 1, o, h => fun i hi hx => by
    cases h0 : inR x row l n with
    | none => simp [inR, h0] at h
    | some o0 =>
      rw [inR_succ h0] at h
      by_cases q : (l.getD n default).x = x
      · cases o0 with
        | none =>
          rw [stepR_n q (cmpVa_eq.2 rfl)] at h
          cases h
          by_cases e : i = n
          · rw [e]
          · cases inR_some h0 i (by omega) hx
        | some v =>
          by_cases c : cmpVa v (row.getD n default) = 0
          · rw [stepR_s q c] at h
            cases h
            by_cases e : i = n
            · rw [e, cmpVa_eq.1 c]
            · exact inR_some h0 i (by omega) hx
          · rw [stepR_sf q c] at h; cases h
      · rw [stepR_no q] at h
        cases h
        exact inR_some h0 i (by by_cases e : i = n; exact absurd (e ▸ hx) q; omega) hx
theorem inR_from {x : Str} {row : List Va} {l : List Ag} : ∀ {n : Nat} {v : Va}, inR x row l n = some (some v) → ∃ i, i < n ∧ (l.getD i default).x = x
  | 0, v, h => by cases h
  | n + 1, v, h => by
    by_cases q : (l.getD n default).x = x
    · exact ⟨n, by omega, q⟩
    · cases h0 : inR x row l n with
      | none => simp [inR, h0] at h
      | some o0 =>
        rw [inR_succ h0, stepR_no q] at h
        cases h
        obtain ⟨i, hi, e⟩ := inR_from h0
        exact ⟨i, by omega, e⟩
theorem inR_bad {x : Str} {row : List Va} {l : List Ag} : ∀ {n : Nat}, inR x row l n = none → ∃ i j, i < n ∧ j < n ∧ (l.getD i default).x = x ∧ (l.getD j default).x = x ∧ row.getD i default ≠ row.getD j default
  | 0, h => by cases h
  | n + 1, h => by
    cases h0 : inR x row l n with
    | none =>
      obtain ⟨i, j, h1, h2, h3⟩ := inR_bad h0
      exact ⟨i, j, by omega, by omega, h3⟩
    | some o0 =>
      rw [inR_succ h0] at h
      by_cases q : (l.getD n default).x = x
      · cases o0 with
        | none => rw [stepR_n q (cmpVa_eq.2 rfl)] at h; cases h
        | some v =>
          by_cases c : cmpVa v (row.getD n default) = 0
          · rw [stepR_s q c] at h; cases h
          · obtain ⟨i, hi, e⟩ := inR_from h0
            have := inR_some h0 i hi e
            cases this
            exact ⟨i, n, by omega, by omega, e, q, fun z => c (cmpVa_eq.2 z)⟩
      · rw [stepR_no q] at h; cases h
theorem outR_some {vs : List Str} {row : List Va} {l : List Ag} (hmet : ∀ k, k < vs.length → ∃ i, i < l.length ∧ (l.getD i default).x = vs.getD k default) : ∀ {n : Nat} {s : List Va}, n ≤ vs.length → outR vs row l n = some s → ∀ k, k < n → ∀ i, i < l.length → (l.getD i default).x = vs.getD k default → s.getD k default = row.getD i default
  | 0, s, _, _ => fun k hk => by omega
  | n + 1, s, hn, h => fun k hk i hi hx => by
    simp only [outR, Option.bind_eq_some_iff, Option.map_eq_some_iff] at h
    obtain ⟨s0, h0, o, h1, rfl⟩ := h
    have l0 := outR_len hmet (by omega) h0
    obtain ⟨v, rfl⟩ := inR_met h1 (hmet n (by omega))
    by_cases e : k = n
    · subst e
      have := inR_some h1 i hi hx
      cases this
      simp [List.getD_eq_getElem?_getD, ← l0]
    · have := outR_some hmet (by omega) h0 k (by omega) i hi hx
      rw [← this]
      simp only [List.getD_eq_getElem?_getD]
      rw [List.getElem?_append_left (by omega)]
theorem outR_bad {vs : List Str} {row : List Va} {l : List Ag} : ∀ {n : Nat}, n ≤ vs.length → outR vs row l n = none → Odd vs row l
  | 0, _, h => by cases h
  | n + 1, hn, h => by
    cases h0 : outR vs row l n with
    | none => exact outR_bad (by omega) h0
    | some s0 =>
      cases h1 : inR (vs.getD n default) row l l.length with
      | some o =>
        have e : outR vs row l (n + 1) = some (s0 ++ o.toList) := by simp only [outR, h0, h1, Option.bind_some, Option.map_some]
        rw [e] at h; cases h
      | none => exact ⟨n, by omega, inR_bad h1⟩
/-- both go the same way -/
theorem go_eq {vs : List Str} {row : List Va} {l : List Ag} (hvs : SrtS vs) (hmet : ∀ k, k < vs.length → ∃ i, i < l.length ∧ (l.getD i default).x = vs.getD k default) :
    (goG vs row l l.length).map Sd.s = (bif bd (CstP row l) then outR vs row l vs.length else none) := by
  have no : ∀ d, goG vs row l l.length = some d → CstP row l ∧ ¬ Odd vs row l := fun d h => by
    obtain ⟨i1, i2⟩ := goG_some hvs h
    refine ⟨fun i hi hx => cmpVa_eq.2 (i1 i hi hx), ?_⟩
    rintro ⟨k, hk, i, j, hi, hj, e1, e2, q⟩
    exact q ((i2 k hk i hi e1).2.symm.trans (i2 k hk j hj e2).2)
  cases h : goG vs row l l.length with
  | some d =>
    obtain ⟨c, o⟩ := no d h
    rw [bd_of c, cond_true]
    cases h2 : outR vs row l vs.length with
    | none => exact absurd (outR_bad (Nat.le_refl _) h2) o
    | some s =>
      have l1 := (goG_len h).1
      have l2 := outR_len hmet (Nat.le_refl _) h2
      simp only [Option.map_some, Option.some.injEq]
      refine List.ext_getElem (by omega) fun k hk1 hk2 => ?_
      obtain ⟨i, hi, e⟩ := hmet k (by omega)
      have a1 := ((goG_some hvs h).2 k (by omega) i hi e).2
      have a2 := outR_some hmet (Nat.le_refl _) h2 k (by omega) i hi e
      rw [← a2] at a1
      simp only [List.getD_eq_getElem?_getD, List.getElem?_eq_getElem hk1, List.getElem?_eq_getElem hk2, Option.getD_some] at a1
      exact a1
  | none =>
    simp only [Option.map_none]
    by_cases c : CstP row l
    · rw [bd_of c, cond_true]
      rcases goG_bad hvs (Nat.le_refl _) h with q | ⟨k, hk, i, j, hi, hj, e1, e2, q⟩
      · exact absurd c q
      · cases h2 : outR vs row l vs.length with
        | none => rfl
        | some s => exact absurd ((outR_some hmet (Nat.le_refl _) h2 k hk i hi e1).symm.trans (outR_some hmet (Nat.le_refl _) h2 k hk j hj e2)) q
    · rw [bd_no c]; rfl
/-- what both answer -/
noncomputable def ansF (row : List Va) (l : List Ag) : Option (List Str × List Va) :=
  if row.length = l.length then (goG (VarsG (argV l)) row l l.length).map fun d => (VarsG (argV l), d.s) else none
noncomputable def tupF : Option (List Str × List Va) → AV
  | some p => .tup [strsA p.1, rowA p.2, .bool true]
  | none => .tup [strsA [], rowA [], .bool false]
theorem fitG_ans (row : List Va) (l : List Ag) : fitG row l = tupF (ansF row l) := by
  unfold fitG ansF
  by_cases q : row.length = l.length
  · rw [if_pos q, if_pos q]
    cases goG (VarsG (argV l)) row l l.length <;> rfl
  · rw [if_neg q, if_neg q]; rfl
theorem met_argV {l : List Ag} {k : Nat} (hk : k < (VarsG (argV l)).length) : ∃ i, i < l.length ∧ (l.getD i default).x = (VarsG (argV l)).getD k default := by
  have h := getD_mem (l := VarsG (argV l)) hk
  generalize (VarsG (argV l)).getD k default = y at h ⊢
  rw [vars_eq, (putN_spec _ _ (Nat.le_refl _)).2, List.take_length] at h
  unfold argV at h
  rw [List.mem_filter, List.mem_map] at h
  obtain ⟨⟨a, ha, rfl⟩, _⟩ := h
  obtain ⟨i, hi, e⟩ := List.getElem_of_mem ha
  refine ⟨i, hi, ?_⟩
  rw [List.getD_eq_getElem?_getD, List.getElem?_eq_getElem hi, ← e]; rfl
theorem varsP_eq (l : List Ag) : VarsP [argC l] = VarsG (argV l) := by
  unfold VarsP; rw [vars_argC, vars_eq]
theorem fitR_ans (row : List Va) (l : List Ag) : fitR row l = tupF (ansF row l) := by
  have hvs : SrtS (VarsG (argV l)) := by rw [vars_eq]; exact (putN_spec _ _ (Nat.le_refl _)).1.at_
  have e := go_eq (row := row) hvs (fun k hk => met_argV hk)
  unfold fitR ansF
  rw [varsP_eq]
  by_cases q : row.length = l.length
  · rw [if_pos q, if_pos q, ← e]
    cases goG (VarsG (argV l)) row l l.length <;> rfl
  · rw [if_neg q, if_neg q]; rfl
end Go.Px.Fx
end
