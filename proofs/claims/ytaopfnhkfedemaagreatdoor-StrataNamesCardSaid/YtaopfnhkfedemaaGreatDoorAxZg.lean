/-
  AxZg: a run in pieces: what stands between two of them is written out.
-/
import Derived.Test.YtaopfnhkfedemaaGreatDoorAxZf
set_option linter.unusedVariables false
set_option linter.unusedSimpArgs false
namespace Go.Ax

/-- a code's run, from one state to another -/
def TriX (c : Ctx) (sz : Nat) (code : Code) (s : St) (x : Ex) (s' : St) : Prop :=
  ∀ (ρ : Map) (w : World) (a : Act) (Q : Exit → Act → World → Prop), HR ρ s.h w → WF s.h → FreeUp c ρ s.h → ER ρ s.e a.tmps sz → MR ρ s.m a.defers →
    (∀ a' w' ρ', Good ρ s.h w ρ' s'.h w' → ER ρ' s'.e a'.tmps sz → MR ρ' s'.m a'.defers → Q (exitOf x) a' w') → code.wpIn (wideR none) 0 c.P Q a w

theorem TriX.seq {c : Ctx} {sz : Nat} {a b : Code} {s s1 s2 : St} {x : Ex} (t1 : TriX c sz a s .normal s1) (t2 : TriX c sz b s1 x s2) : TriX c sz (a.seq b) s x s2 :=
  fun ρ w act Q hr wf fr er mr hQ => wpIn_seq (t1 ρ w act _ hr wf fr er mr fun a1 w1 ρ1 g1 g2 g3 => t2 ρ1 w1 a1 Q g1.hr g1.wf (g1.up fr) g2 g3 fun a' w' ρ' q1 q2 q3 => hQ a' w' ρ' (g1.trans q1) q2 q3)

/-! ## a state that is written out -/
/-- the slots; the next number; the rows -/
structure Lit where
  es : List AV
  nxt : Nat
  rows : List (Nat × TypeId × List AV)
noncomputable section
def litRow (t : TypeId) (cells : List AV) : Row := ⟨t, cells.length, .leaf, cells, none⟩
def litH (g0 : Heap) (l : Lit) : Heap :=
  List.rec (motive := fun _ => Heap) ⟨l.nxt, g0.blk, .leaf, []⟩ (fun p _ h => h.put p.1 (.row (litRow p.2.1 p.2.2))) l.rows
def litS (g0 : Heap) (n : Nat) (l : Lit) : St := ⟨T.put und l.es (env0 und n) 0, litH g0 l, []⟩
def esLe (e : T AV) (l : List AV) : Nat → Bool :=
  List.rec (motive := fun _ => Nat → Bool) (fun _ => true)
    (fun v _ ih i => match (match v with | .bad => true | v => avEqD (e.get und i) v) with | true => ih (i + 1) | false => false) l
/-- is a row of the list as it is in memory, and alone -/
def rowLe (g0 h : Heap) (nxt : Nat) (p : Nat × TypeId × List AV) : Bool :=
  match g0.get p.1 with
  | .none => (match Nat.ble (p.1 + 1) nxt with
    | false => false
    | true => (match h.get p.1 with
      | .row r => (match rowEq (litRow p.2.1 p.2.2) r with
        | false => false
        | true => (match r.root with
          | none => true
          | some q => (match h.tip q with | some t => Nat.beq t p.1 | none => false)))
      | _ => false))
  | _ => false
def rowsLe (g0 h : Heap) (nxt : Nat) (l : List (Nat × TypeId × List AV)) : Bool :=
  List.rec (motive := fun _ => Bool) true (fun p _ r => match rowLe g0 h nxt p with | true => r | false => false) l
/-- a piece ends in what is written -/
def pieceOk (g0 : Heap) (n : Nat) (r : Res) (l : Lit) : Bool :=
  match r with
  | .bad _ => false
  | .ok x s => (match x with
    | .normal => (match s.m with
      | [] => (match Nat.beq l.es.length n with
        | false => false
        | true => (match Nat.beq s.h.nxt l.nxt with
          | false => false
          | true => (match esLe s.e l.es 0 with
            | false => false
            | true => rowsLe g0 s.h l.nxt l.rows)))
      | _ :: _ => false)
    | _ => false)
/-- the last one ends with a value -/
def lastOk (c : Ctx) (fn : Func) (r : Res) (v : AV) : Bool :=
  match r with
  | .bad _ => false
  | .ok x s => (match (match x with | .normal => true | .ret => true | _ => false) with
    | false => false
    | true => (match s.m with
      | [] => (match resA c s.h s.e fn.results.toList with
        | some vs => (match avEqD (one vs) v with | true => clo v | false => false)
        | none => false)
      | _ :: _ => false))
end

theorem litH_get (g0 : Heap) (nxt : Nat) (es : List AV) : ∀ rows i, (litH g0 ⟨es, nxt, rows⟩).get i = g0.get i ∨ ∃ t cells, (i, t, cells) ∈ rows ∧ (litH g0 ⟨es, nxt, rows⟩).get i = .row (litRow t cells)
  | [], i => .inl rfl
  | p :: rows, i => by
    rw [show litH g0 ⟨es, nxt, p :: rows⟩ = (litH g0 ⟨es, nxt, rows⟩).put p.1 (.row (litRow p.2.1 p.2.2)) from rfl, Heap.get_put]
    by_cases e : i = p.1
    · rw [if_pos e]
      exact .inr ⟨p.2.1, p.2.2, by rw [e]; exact List.mem_cons_self, rfl⟩
    · rw [if_neg e]
      rcases litH_get g0 nxt es rows i with h | ⟨t, c, h1, h2⟩
      · exact .inl h
      · exact .inr ⟨t, c, List.mem_cons_of_mem _ h1, h2⟩
theorem litH_nxt (g0 : Heap) (nxt : Nat) (es : List AV) : ∀ rows, (litH g0 ⟨es, nxt, rows⟩).nxt = nxt
  | [] => rfl
  | p :: rows => litH_nxt g0 nxt es rows
theorem litH_tip (g0 : Heap) (nxt : Nat) (es : List AV) : ∀ rows q, (litH g0 ⟨es, nxt, rows⟩).tip q = none
  | [], q => rfl
  | p :: rows, q => litH_tip g0 nxt es rows q
theorem rowsLe_mem {g0 h : Heap} {nxt : Nat} : ∀ {l : List (Nat × TypeId × List AV)}, rowsLe g0 h nxt l = true → ∀ p ∈ l, rowLe g0 h nxt p = true
  | [], _, p, hp => by cases hp
  | x :: l, e, p, hp => by
    have e' : (match rowLe g0 h nxt x with | true => rowsLe g0 h nxt l | false => false) = true := e
    split at e'
    · rename_i hx
      rcases List.mem_cons.1 hp with rfl | hp
      · exact hx
      · exact rowsLe_mem e' p hp
    · cases e'
theorem esLe_at {e : T AV} : ∀ {l : List AV} {i : Nat}, esLe e l i = true → ∀ j v, l[j]? = some v → v = .bad ∨ e.get und (i + j) = v
  | [], i, _, j, v, hj => by simp at hj
  | x :: l, i, h, j, v, hj => by
    have h' : (match (match x with | .bad => true | v => avEqD (e.get und i) v) with | true => esLe e l (i + 1) | false => false) = true := h
    split at h'
    · rename_i hx
      cases j with
      | zero =>
        simp at hj; subst hj
        split at hx
        · exact .inl rfl
        · exact .inr (by rw [Nat.add_zero]; exact avEqD_eq hx)
      | succ j =>
        rcases esLe_at h' j v (by simpa using hj) with q | q
        · exact .inl q
        · exact .inr (by rw [← q]; congr 1; omega)
    · cases h'

theorem lit_weak {g0 h : Heap} (hb : BaseOk g0) {l : Lit} (hn : h.nxt = l.nxt) (hr : rowsLe g0 h l.nxt l.rows = true) (hgl : ∀ i r, g0.get i = .gl r → h.get i = .gl r) : Weak0 (litH g0 l) h := by
  obtain ⟨es, nxt, rows⟩ := l
  refine ⟨by rw [litH_nxt]; exact hn.symm, fun i => ?_, fun q => .inl (litH_tip _ _ _ _ q)⟩
  rcases litH_get g0 nxt es rows i with e | ⟨t, cells, hm, e⟩
  · rcases hb.only i with e0 | ⟨r, e0⟩
    · exact .inl ⟨e.trans e0, fun s q _ _ => litH_tip _ _ _ _ q⟩
    · exact .inr (.inl (by rw [e, e0, hgl i r e0]))
  · have hle := rowsLe_mem hr _ hm
    unfold rowLe at hle
    split at hle
    · split at hle
      · cases hle
      · split at hle
        · rename_i r hg
          split at hle
          · cases hle
          · rename_i hre
            have hs := rowEq_ok hre
            refine .inr (.inr ⟨litRow t cells, r, e, hg, hs, ?_⟩)
            split at hle
            · rename_i hroot; exact .inl hroot.symm
            · rename_i q hroot
              split at hle
              · rename_i u hu
                exact .inr ⟨rfl, q, hroot, litH_tip _ _ _ _ q, by rw [hu, beqT hle]⟩
              · cases hle
        · cases hle
    · cases hle

/-- A PIECE. -/
theorem piece {c : Ctx} (k : CtxOk c) (kn : KnOk c) (hm : c.P.follows .mixedOrders = true) {ext : Ext} (hx : ExtOk c ext) (hb : BaseOk c.g0) {lim n : Nat} {f : FuncId} {sz : Nat} {code : Code} {s : St} {l : Lit}
    (hs : ∀ i r, s.h.get i = .gl r → c.g0.get i = .gl r)
    (h : pieceOk c.g0 sz (execQ code ⟨c, drawQ, appQ c drawQ lim ext n, lim, f, sz, none⟩ s) l = true) : TriX c sz code s .normal (litS c.g0 sz l) := by
  rw [execQ_eq] at h
  simp only [appQ_eq, drawQ_eq] at h
  unfold pieceOk at h
  split at h
  · cases h
  · rename_i x s1 he
    split at h
    · split at h
      · rename_i hm0
        split at h
        · cases h
        · rename_i hlen
          have hlen := beqT hlen
          split at h
          · cases h
          · rename_i hn
            have hn := beqT hn
            split at h
            · cases h
            · rename_i hes
              intro ρ w a Q hr wf fr er mr hQ
              refine exec_ok k drawA_calm (drawA_sound k hm) (app_ok k kn drawA_calm (drawA_sound k hm) hx n) (lim := lim) (fn := f) (sz := sz) none code s .normal s1 he none ρ w a Q rfl hr wf fr er mr fun a' w' ρ' g1 g2 g3 => ?_
              have hw := lit_weak hb hn h (fun i r q => g1.gl i r (fr.2 i r q))
              refine hQ a' w' ρ' (g1.weak0 hw fun i r q => ?_) ⟨g2.1, fun t => ?_⟩ (by rw [hm0] at g3; exact g3)
              · have q0 := hs i r q
                rcases litH_get c.g0 l.nxt l.es l.rows i with e | ⟨t, cells, hmem, e⟩
                · exact e.trans q0
                · have hle := rowsLe_mem h _ hmem
                  unfold rowLe at hle
                  rw [q0] at hle; cases hle
              · show VR ρ' ((T.put und l.es (env0 und sz) 0).get und t) _
                rw [get_put]
                simp only [Nat.zero_le, if_true, Nat.sub_zero, get_env0]
                cases ht : l.es[t]? with
                | none =>
                  have : sz ≤ t := by
                    rw [← hlen]
                    exact List.getElem?_eq_none_iff.1 ht
                  have hd : a'.tmps.getD t undef = undef := by
                    rw [Array.getD_eq_getD_getElem?, Array.getElem?_eq_none (by rw [g2.1]; exact this)]; rfl
                  rw [hd]
                  exact und_ok ρ'
                | some v =>
                  simp only [Option.getD_some]
                  rcases esLe_at hes t v ht with q | q
                  · subst q; simp only [VR]
                  · rw [Nat.zero_add] at q
                    rw [← q]; exact g2.2 t
      · cases h
    · cases h

theorem litS_gl {g0 : Heap} {n : Nat} {l : Lit} : ∀ i r, (litS g0 n l).h.get i = .gl r → g0.get i = .gl r := fun i r e => by
  have e' : (litH g0 l).get i = .gl r := e
  obtain ⟨es, nxt, rows⟩ := l
  rcases litH_get g0 nxt es rows i with q | ⟨t, cells, _, q⟩
  · rw [← q]; exact e'
  · rw [q] at e'; cases e'

/-- THE LAST PIECE: what is left of the body is run, and hands back a value. -/
def EndX (c : Ctx) (fn : Func) (code : Code) (s : St) (v : AV) : Prop :=
  ∃ x s', TriX c fn.ntmps code s x s' ∧ (x = .normal ∨ x = .ret) ∧ s'.m = [] ∧ (∃ vs, resA c s'.h s'.e fn.results.toList = some vs ∧ one vs = v) ∧ clo v = true
theorem EndX.seq {c : Ctx} {fn : Func} {a b : Code} {s s1 : St} {v : AV} (t : TriX c fn.ntmps a s .normal s1) (e : EndX c fn b s1 v) : EndX c fn (a.seq b) s v := by
  obtain ⟨x, s', h1, h2⟩ := e
  exact ⟨x, s', t.seq h1, h2⟩
theorem last {c : Ctx} (k : CtxOk c) (kn : KnOk c) (hm : c.P.follows .mixedOrders = true) {ext : Ext} (hx : ExtOk c ext) {lim n : Nat} {f : FuncId} {fn : Func} {code : Code} {s : St} {v : AV}
    (h : lastOk c fn (execQ code ⟨c, drawQ, appQ c drawQ lim ext n, lim, f, fn.ntmps, none⟩ s) v = true) : EndX c fn code s v := by
  rw [execQ_eq] at h
  simp only [appQ_eq, drawQ_eq] at h
  unfold lastOk at h
  split at h
  · cases h
  · rename_i x s1 he
    split at h
    · cases h
    · rename_i hxx
      split at h
      · rename_i hm0
        split at h
        · rename_i vs hvs
          split at h
          · rename_i hv
            refine ⟨x, s1, fun ρ w a Q hr wf fr er mr hQ => exec_ok k drawA_calm (drawA_sound k hm) (app_ok k kn drawA_calm (drawA_sound k hm) hx n) (lim := lim) (fn := f) (sz := fn.ntmps) none code s x s1 he none ρ w a Q rfl hr wf fr er mr hQ, ?_, hm0, ⟨vs, hvs, avEqD_eq hv⟩, h⟩
            cases x with
            | normal => exact .inl rfl
            | ret => exact .inr rfl
            | exit i => cases hxx
          · cases h
        · cases h
      · cases h

theorem known_of_pieces {c : Ctx} (k : CtxOk c) (hb : BaseOk c.g0) {f : FuncId} {fn : Func} {body : Code} (hf : c.P.funcs[f]? = some fn) (hbody : fn.body = some body) {args : List AV} {v : AV} (hlen : Nat.ble args.length fn.ntmps = true)
    (he : EndX c fn body ⟨T.put und args (env0 und fn.ntmps) 0, c.g0, []⟩ v) : KnownOk c f args v := by
  intro w A hw hA
  obtain ⟨x, s', ht, hxx, hm0, ⟨vs, hvs, hone⟩, hv⟩ := he
  have hnm : fn.name ≠ "runtime.NumGoroutine" := by simpa using k.names f fn hf
  have hhr : HR (mapG c.g0) c.g0 w := by
    refine ⟨fun i B N e => ?_, fun i B N e o => ?_, fun i j B N M hij e1 e2 _ _ => ?_, fun i r e => ⟨0, mapG_of e⟩⟩
    · obtain ⟨rfl, r, hr⟩ := mapG_some e; exact (hw _ r hr).1
    · obtain ⟨rfl, r, hr⟩ := mapG_some e
      rw [hr]
      exact fun j hj => by
        obtain ⟨x, x1, x2⟩ := (hw _ r hr).2 j hj
        exact ⟨x, x1, x2.mono (fun i p q => by cases q)⟩
    · obtain ⟨h1, _⟩ := mapG_some e1
      obtain ⟨h2, _⟩ := mapG_some e2
      exact absurd (h1.symm.trans h2) hij
  have hfr : FreeUp c (mapG c.g0) c.g0 := ⟨fun i hi => by unfold mapG; rw [hb.wf.fresh i hi], fun i r e => e⟩
  have hA' : VRs (mapG c.g0) args A := VRs.mono (fun i p q => by cases q) _ hA
  refine ⟨.enter f A.toArray, w, by simp [callFunc, hf, hnm, hbody, Sem.run], ?_⟩
  refine callsIn_of_wp_marks hf hbody trivial ?_
  refine ht (mapG c.g0) w _ _ hhr hb.wf hfr (args_er hA' (bleT hlen)) rfl fun a' w' ρ' g er mr => ?_
  have hfin : LeavesInM Fence.wide 0 c.P fn a'.tmps (EndR fun z w' => ExtW w w' ∧ VR (fun _ => none) v z) a'.defers .returning w' := by
    refine leave_ok (h' := s'.h) g.hr g.wf mr (by rw [hm0]; rfl) fun w2 g2 => ?_
    obtain ⟨z, z1, z2⟩ := results_ok k g2.hr er hvs
    have gg := g.trans g2
    refine ⟨z, z1, ⟨gg.same, fun b hlt => ?_⟩, clo_ok hv (by rw [← hone]; exact z2)⟩
    rcases hb.only b with e | ⟨r, e⟩
    · refine gg.frame b hlt fun i N q => ?_
      obtain ⟨rfl, r, hr⟩ := mapG_some q
      rw [e] at hr; cases hr
    · exact gg.glw b r e
  rcases hxx with rfl | rfl
  · exact hfin
  · exact hfin

end Go.Ax
