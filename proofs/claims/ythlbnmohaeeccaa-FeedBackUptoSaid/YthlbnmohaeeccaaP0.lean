/- Parts of the proof in YthlbnmohaeeccaaFin: FeO, PxVq, PxVt, PxVw, PxVl. -/
import Derived.Test.YthlbnmohaeeccaaK4
set_option linter.unusedVariables false
set_option linter.unusedSimpArgs false
section
set_option maxHeartbeats 4000000
set_option maxRecDepth 20000
namespace Go.Px.Fe
open Go.Proofs Go.Px.Fs
attribute [local irreducible] Go.Px.KOk
theorem k54 (d : Da) : KOk cF 54 [.int .i64 1, .agg (encDa d)] (.bool true) := by
 refine KOk.of cF_ok eF.g Try.func54 rfl (Nat.le_of_ble_eq_true rfl) fun w F => ?_
 repeat' first | refine Go.seq ?_ | refine Go.region rfl ?_ | refine Ops.nil ?_ | refine Ops.val eF rfl rfl Zw (by first | exact Z1 | exact Z3 | exact Hop.eqS rfl rfl rfl | exact Hop.neS rfl rfl rfl | exact Z4 | exact Z5 | exact Hop.ldF eF rfl rfl rfl rfl rfl rfl (fun _ => rfl) rfl rfl (by omega)) ?_ | refine Ops.boxR eF rfl rfl Zw rfl rfl rfl rfl ?_ | refine Go.condT rfl ?_ | refine Go.condF rfl ?_ | refine Go.condTt rfl Za ?_ | refine Go.condFt rfl Za ?_ | refine Go.condPt rfl (fun _ => ?_) (fun _ => ?_) | refine Go.condNt rfl (fun _ => ?_) (fun _ => ?_) | refine Go.block ?_ | refine Go.unblk ?_ | refine Go.skip ?_ | refine Go.exit rfl ?_ | refine Go.retF rfl ?_ rfl | refine Go.endF rfl ?_ rfl | refine Go.retFm rfl rfl ?_ rfl | refine Go.endFm rfl rfl ?_ rfl | refine Go.retI rfl ?_ | refine Go.retM rfl rfl ?_ ?_ rfl | refine Go.endM rfl rfl ?_ ?_ rfl | refine Go.retY rfl rfl rfl ?_ | refine Go.endY rfl rfl rfl ?_ | refine (Ops.val eF rfl rfl Zw (by exact Hop.ldFG eF rfl rfl rfl rfl rfl rfl rfl (fun _ => rfl) (by omega)) ?_) | refine Go.endI rfl ?_
 all_goals first
  | rfl
  | (exfalso; omega)
end Go.Px.Fe
end
section
namespace Go.Px
noncomputable def badH : Heap := (bare 0).put 0 (.arr 0 0 0 [])
theorem badH_no {X : Cx} {ρ : Map} {w : World} (p : PI X ρ badH w) : False := by
 have := p.wf.fresh 0 (Nat.le_refl _)
 rw [show badH.get 0 = .arr 0 0 0 [] by unfold badH; rw [Heap.get_put, if_pos rfl]] at this
 cases this
def vacK : List It → Bool
 | .code _ :: _ => true
 | .lp _ :: _ => true
 | .blk _ :: k => vacK k
 | [] => false
theorem runK_bad {X : Cx} {sz : Nat} {rd : Option Nat} {Q : Post} {e : T AV} {m : List Nat} : ∀ {k : List It}, vacK k = true → RunK X sz rd k Q .normal ⟨e, badH, m⟩
 | .code c :: k, _ => fun ro ρ w a Q' h1 h2 h3 h4 h5 => (badH_no h2).elim
 | .lp c :: k, _ => fun ro ρ w a Q' h1 h2 h3 h4 h5 => (badH_no h2).elim
 | .blk id :: k, h => runK_bad (k := k) h
 | [], h => by cases h
theorem Go.bad {X : Cx} {sz : Nat} {rd : Option Nat} {k : List It} {L : List (Nat × AV)} {m : List Nat} {Q : Post} (hk : vacK k = true) : Go X sz rd k L badH m Q := ⟨fun e he => runK_bad hk⟩
noncomputable def HP (P : Nat → Prop) (H : Nat → Heap) (j : Nat) : Heap := bif bd (P j) then H j else badH
theorem HP_t {P : Nat → Prop} {H : Nat → Heap} {j : Nat} (h : P j) : HP P H j = H j := by unfold HP; rw [bd_of h]; rfl
theorem HP_f {P : Nat → Prop} {H : Nat → Heap} {j : Nat} (h : ¬ P j) : HP P H j = badH := by unfold HP; rw [bd_no h]; rfl
theorem Go.rangeP {X : Cx} {tb : List (Nat × TE)} (E : Env X.c tb) {sz : Nat} {k : List It} {L : List (Nat × AV)} {h : Heap} {m : List Nat} {Q : Post} (n : Nat) {f : Operand} {ps : Array Tmp} {assign body : Code} {g : FuncId} {cap : List AV} {items : List (List AV)} (hn : h.nxt = n) (hfv : evL L f = some (.fn (.func g) [] cap)) (hdat : datsB cap = true) (hk : KIt X.c g cap items) (hon : onceB L = true)
  (P : Nat → Prop) (H : Nat → Heap) (p0 : P 0) (h0 : ∀ b, ChgE (XH X L n m b) (newAt n h (.dfr true)) (H 0)) (hps : ∀ (j : Nat) (v : List AV), items[j]? = some v → Nat.beq ps.toList.length v.length = true) (hps2 : (ps.toList.all fun p => Nat.ble (p + 1) sz) = true)
  (hbody : ∀ (j : Nat) (v : List AV), items[j]? = some v → P j → ∀ b, Go (XH X L n m b) sz none [.code assign] (setL ps.toList v L) (H j) [] (QA X sz k L n m Q (HP P H (j + 1)) body)) (hv : vacK k = true)
  (nx : P items.length → Go X sz none k L (H items.length) (n :: m) Q) (hro : X.ro = none := by rfl) (hgn : X.g = none ∨ ∃ t z q l, h.get 0 = .arr t z q l := by first | exact .inl rfl | exact .inr ⟨_, _, _, _, rfl⟩) :
  Go X sz none (.code (.rangeFunc f ps assign body) :: k) L h m Q := by
 refine Go.rangeK E n hn hfv hdat hk hon (HP P H) (fun b => by rw [HP_t p0]; exact h0 b) hps hps2 (fun j v hj b => ?_) ?_ hro hgn
 ·by_cases q : P j
  ·rw [HP_t (H := H) q]; exact hbody j v hj q b
  ·rw [HP_f (H := H) q]; exact Go.bad rfl
 ·by_cases q : P items.length
  ·rw [HP_t (H := H) q]; exact nx q
  ·rw [HP_f (H := H) q]; exact Go.bad hv
/-! ## ways that meet again -/
def Mid (L' : List (Nat × AV)) (h' : Heap) (m : List Nat) : Post := fun x s => x = .normal ∧ ∃ e, s = ⟨e, h', m⟩ ∧ Has e L'
theorem Go.mid {X : Cx} {sz : Nat} {rd : Option Nat} {k : List It} {L : List (Nat × AV)} {h : Heap} {m : List Nat} {Q : Post} {c : Code} (L' : List (Nat × AV)) (h' : Heap) (n1 : Go X sz rd [.code c] L h m (Mid L' h' m)) (n2 : Go X sz rd k L' h' m Q) : Go X sz rd (.code c :: k) L h m Q := ⟨fun e he =>
 (show Tri X sz rd c ⟨e, h, m⟩ (Mid L' h' m) from n1.run e he).mono fun x s' q => by
  obtain ⟨rfl, e', rfl, he'⟩ := q
  exact n2.run e' he'⟩
theorem Go.midE {X : Cx} {sz : Nat} {rd : Option Nat} {L L' : List (Nat × AV)} {h : Heap} {m : List Nat} (hs : SubL L L') : Go X sz rd [] L h m (Mid L' h m) := Go.nil fun e he => ⟨rfl, e, rfl, he.sub hs⟩
end Go.Px
end
section
namespace Go.Px
def selL (base : List (Nat × AV)) (D : Nat) : List (Nat × Nat × Nat × AV) → List (Nat × AV)
 | [] => base
 | (i, u, p) :: r => match bitB (2 * D + 1) i with | true => (match bitB (2 * D + 1) u with | true => selL base D r | false => p :: selL base D r) | false => selL base D r
theorem TriOps.mono {X : Cx} {sz : Nat} {rd : Option Nat} {all : Array Oper} {rest : List Oper} {s : St} {K K' : St → Prop} (h : TriOps X sz rd all rest s K) (g : ∀ s', K s' → K' s') : TriOps X sz rd all rest s K' :=
 fun is his ro ρ w a Q' h1 h2 h3 h4 h5 => h is his ro ρ w a Q' h1 h2 h3 h4 (fun s' a' w' ρ' q => h5 s' a' w' ρ' (g s' q))
def eqN : List Nat → List Nat → Bool
 | [], [] => true
 | a :: l, b :: r => Nat.beq a b && eqN l r
 | _, _ => false
theorem eqN_eq : ∀ {l r : List Nat}, eqN l r = true → l = r
 | [], [], _ => rfl
 | a :: l, b :: r, h => by
  have h : (Nat.beq a b && eqN l r) = true := h
  rw [Bool.and_eq_true] at h
  rw [beqT h.1, eqN_eq h.2]
 | [], _ :: _, h => by cases h
 | _ :: _, [], h => by cases h
noncomputable def lvChk (ops : List Oper) (Df : Nat) : List (List (Nat × List Nat)) → Bool
 | [] => false
 | l :: r => match r with
  | [] => l.all fun p => Nat.beq p.1 Df && eqN (rdy ops p.1) []
  | l2 :: _ => (l.all fun p => (match p.2 with | [] => false | _ :: _ => true) && eqN (rdy ops p.1) p.2 && p.2.all fun i => l2.any fun E => Nat.beq E.1 (orB p.1 (bit1 i))) && lvChk ops Df r
section
variable (X : Cx) (sz : Nat) (rd : Option Nat) (all : Array Oper) (m : List Nat) (Lf : Nat → List (Nat × AV)) (Hf : Nat → Heap)
def DagO (D : Nat) : List Nat → Prop
 | [] => True
 | i :: r => (∃ o, nth1 all.toList i = some o ∧ Ops X sz rd all [o] [] (Lf D) (Hf D) m (Mid (Lf (orB D (bit1 i))) (Hf (orB D (bit1 i))) m)) ∧ DagO D r
def DagL : List (Nat × List Nat) → Prop
 | [] => True
 | p :: r => DagO X sz rd all m Lf Hf p.1 p.2 ∧ DagL r
def DagV : List (List (Nat × List Nat)) → Prop
 | [] => True
 | l :: r => DagL X sz rd all m Lf Hf l ∧ DagV r
end
section
variable {X : Cx} {sz : Nat} {rd : Option Nat} {all : Array Oper} {m : List Nat} {Lf : Nat → List (Nat × AV)} {Hf : Nat → Heap}
theorem DagO.at_ {D : Nat} : ∀ {l : List Nat}, DagO X sz rd all m Lf Hf D l → ∀ i ∈ l, ∃ o, nth1 all.toList i = some o ∧ Ops X sz rd all [o] [] (Lf D) (Hf D) m (Mid (Lf (orB D (bit1 i))) (Hf (orB D (bit1 i))) m)
 | [], _, i, hi => by cases hi
 | j :: r, h, i, hi => by
  rcases List.mem_cons.1 hi with rfl | hi
  ·exact h.1
  ·exact DagO.at_ h.2 i hi
theorem DagL.at_ : ∀ {l : List (Nat × List Nat)}, DagL X sz rd all m Lf Hf l → ∀ p ∈ l, DagO X sz rd all m Lf Hf p.1 p.2
 | [], _, i, hi => by cases hi
 | j :: r, h, i, hi => by
  rcases List.mem_cons.1 hi with rfl | hi
  ·exact h.1
  ·exact DagL.at_ h.2 i hi
theorem dag_run {Df : Nat} : ∀ (Lv : List (List (Nat × List Nat))) (l : List (Nat × List Nat)), lvChk all.toList Df (l :: Lv) = true → DagV X sz rd all m Lf Hf (l :: Lv) → ∀ p ∈ l, Go X sz rd [] (Lf p.1) (Hf p.1) m (AnyQ X sz rd all Lv.length p.1 [] (Mid (Lf Df) (Hf Df) m))
 | [], l, hc, _, p, hD => by
  have hc : (l.all fun p => Nat.beq p.1 Df && eqN (rdy all.toList p.1) []) = true := hc
  have := List.all_eq_true.1 hc p hD
  rw [Bool.and_eq_true] at this
  obtain ⟨h1, h2⟩ := this
  rw [beqT h1] at h2 ⊢
  exact Go.anyEnd (eqN_eq h2) (Go.nil fun e he => ⟨rfl, e, rfl, he⟩)
 | l2 :: r, l, hc, H, p, hD => by
  have hc : ((l.all fun p => (match p.2 with | [] => false | _ :: _ => true) && eqN (rdy all.toList p.1) p.2 && p.2.all fun i => l2.any fun E => Nat.beq E.1 (orB p.1 (bit1 i))) && lvChk all.toList Df (l2 :: r)) = true := hc
  rw [Bool.and_eq_true] at hc
  obtain ⟨hc1, hc2⟩ := hc
  have ih := dag_run r l2 hc2 H.2
  have hq := List.all_eq_true.1 hc1 p hD
  rw [Bool.and_eq_true, Bool.and_eq_true] at hq
  obtain ⟨⟨q1, q0⟩, q2⟩ := hq
  have hO := DagL.at_ H.1 p hD
  have q0 := eqN_eq q0
  obtain ⟨D, rs⟩ := p
  cases rs with
  | nil => cases q1
  | cons i0 r0 =>
   refine Go.anyStep (ready_ne q0) fun i hi => ?_
   rw [q0] at hi
   obtain ⟨o, ho, n⟩ := hO.at_ i hi
   refine ⟨o, ho, ⟨fun e he => (n.run e he).mono fun s' q => ?_⟩⟩
   have q3 := List.all_eq_true.1 q2 i hi
   obtain ⟨E, hE, hE2⟩ := List.any_eq_true.1 q3
   have g := ih E hE
   rw [beqT hE2] at g
   obtain ⟨_, e', rfl, he'⟩ : Mid (Lf (orB D (bit1 i))) (Hf (orB D (bit1 i))) m .normal s' := q
   exact g.run e' he'
theorem Go.dag {k : List It} {L : List (Nat × AV)} {h : Heap} {Q : Post} {id : Nat} (Df : Nat) (hm : X.c.P.follows .mixedOrders = true) (Lf : Nat → List (Nat × AV)) (Hf : Nat → Heap) (rs : List Nat) (Lv : List (List (Nat × List Nat))) (hc : lvChk all.toList Df ([(0, rs)] :: Lv) = true) (hn : Nat.beq Lv.length all.toList.length = true) (hL : SubL L (Lf 0)) (hh : h = Hf 0)
  (H : DagV X sz rd all m Lf Hf ([(0, rs)] :: Lv)) (n2 : Go X sz rd k (Lf Df) (Hf Df) m Q) : Go X sz rd (.code (.region id all true) :: k) L h m Q := by
 subst hh
 refine Go.mid (Lf Df) (Hf Df) (Go.anyD hm ?_) n2
 have := dag_run Lv [(0, rs)] hc H (0, rs) (List.mem_singleton.2 rfl)
 rw [beqT hn] at this
 exact Go.sub hL this
theorem Ops.midE {L L' : List (Nat × AV)} {h : Heap} (hs : SubL L L') : Ops X sz rd all [] [] L h m (Mid L' h m) := Ops.nil (Go.midE hs)
theorem Ops.midQ {L L' : List (Nat × AV)} {h : Heap} {bs : List AB} {N : Nat} (hg : ∀ i r, X.c.g0.get i ≠ .gl r) (hN : bs.length = N) (hs : SubL L L') (hlow : lowL N L' = true) (hn : Nat.ble N h.nxt = true) (hb : getsP h bs 0) (hbl : lowsP N bs)
  (hm : (m.all fun i => Nat.ble (i + 1) N) = true) (hrd : rdLow N rd = true) (hG : lowsB N X.gv = true := by rfl) (hz : X.g = none ∨ Nat.ble 2 N = true := by first | exact .inl rfl | exact .inr rfl) : Ops X sz rd all [] [] L h m (Mid L' (hq N bs) m) := by
 subst hN
 exact Ops.change (Chg.cut bs hg hs hlow hn hb hbl hm hrd hG hz) (Ops.nil (Go.nil fun e he => ⟨rfl, e, rfl, he⟩))
end
end Go.Px
end
section
namespace Go.Px
section
variable {X : Cx} {sz : Nat} {rd : Option Nat} {L : List (Nat × AV)} {h : Heap} {m : List Nat}
theorem row_at_n {t : TypeId} {cs : List AV} {j N : Nat} (hN : cs.length = N) (hj : j < N) : Row.get ⟨t, N, .leaf, cs, none⟩ j = cs.getD j .bad := by
 subst hN; exact row_at_i hj
theorem getD_set {cs : List AV} {i j : Nat} {v : AV} (hj : j < cs.length) : (cs.set i v).getD j .bad = if i = j then v else cs.getD j .bad := by
 rw [List.getD_eq_getElem?_getD, List.getElem?_set]
 by_cases e : i = j
 ·subst e; rw [if_pos rfl, if_pos hj, if_pos rfl]; rfl
 ·rw [if_neg e, if_neg e, List.getD_eq_getElem?_getD]
theorem Chg.tokCellJ (n0 id i : Nat) (ty z N : Nat) {t : TypeId} {cs : List AV} {u : AV} (hN : cs.length = N) (hi : i < N) (hci : cs.getD i .bad = u) (hn0 : h.nxt = n0) (hu : noRoom u = true) (hg : h.get id = .row ⟨t, N, .leaf, cs, none⟩) (hz : X.g = none ∨ Nat.ble 1 n0 = true := by first | exact .inl rfl | exact .inr rfl) : Chg X sz rd L h L ((newAt n0 h (.arr ty z 0 [])).put id (.row ⟨t, N, .leaf, cs.set i (.own n0 0 z), none⟩)) m := fun ro ρ w e a h1 p h3 he h4 => by
 rw [← new_at hn0]
 subst hn0
 have hlt : id < h.nxt := by
  rcases Nat.lt_or_ge id h.nxt with q | q
  ·exact q
  ·rw [p.wf.fresh id q] at hg; cases hg
 have hcell : ∀ B M, ρ id = some (B, M) → ∃ x, w.cell? ⟨B, i, none⟩ = some x ∧ VR ρ u x := fun B M e => by
  have := p.hr.ok id B M e (by unfold Heap.ok; rw [hg]; simp only []; rw [Heap.row_of hg]; rfl)
  rw [hg] at this
  have ro : RowOk ρ ⟨t, N, .leaf, cs, none⟩ B M w := this
  obtain ⟨x, x1, x2⟩ := ro.2.2.2 i hi
  rw [row_at_n hN hi, hci] at x2
  exact ⟨x, x1, x2⟩
 obtain ⟨v0, a0, hv0, hall⟩ : ∃ v0 a0, v0 = Value.slice a0 0 0 ∧ ∀ B M, ρ id = some (B, M) → w.cell? ⟨B, i, none⟩ = some v0 := by
  cases hid : ρ id with
  | none => exact ⟨_, none, rfl, fun B M e => by cases e⟩
  | some y =>
   obtain ⟨B, M⟩ := y
   obtain ⟨x, x1, x2⟩ := hcell B M hid
   obtain ⟨a, ha⟩ := noRoom_at hu x2
   exact ⟨x, a, ha, fun B' M' e => by cases e; exact x1⟩
 obtain ⟨ρ', p', hs, v1, hm, _⟩ := p.tokV ty z hv0 hz
 have hne : id ≠ h.nxt := by omega
 have hg' : (h.new (.arr ty z 0 [])).get id = .row ⟨t, N, .leaf, cs, none⟩ := by rw [Heap.get_new, if_neg hne]; exact hg
 refine ⟨ρ', e, h1.mono hs, p'.cellV hg' rfl rfl rfl rfl (fun B M e1 j v hj hc q => ?_), h3.mono hs, he, h4.mono hs⟩
 have hj : j < N := hj
 rw [row_at_n hN hj] at q
 rw [row_at_n (by rw [List.length_set]; exact hN) hj, getD_set (by omega)]
 by_cases eij : i = j
 ·subst eij
  rw [if_pos rfl]
  have e2 : ρ id = some (B, M) := by
   have : ρ'.m id = some (B, M) := e1
   rw [hm] at this; exact this
  rw [hall B M e2] at hc
  cases hc
  simp only [VR]
  exact ⟨v1, .inl ⟨trivial, _, hv0⟩⟩
 ·rw [if_neg eij]; exact q
theorem Chg.cellFrzJ (id k i N : Nat) {t ty : TypeId} {z n : Nat} {cs l : List AV} (hN : cs.length = N) (hij : i < N) (hci : cs.getD i .bad = .own k n z) (hg : h.get id = .row ⟨t, N, .leaf, cs, none⟩) (hk : h.get k = .arr ty z n l) (hi : HInd k h) (hL : indL k L = true) (hm : (m.all fun i => !Nat.beq i k) = true) (hrd : rdNot k rd = true) (hG : indsB k X.gv = true := by rfl) :
  Chg X sz rd L h L ((h.put k .none).put id (.row ⟨t, N, .leaf, cs.set i (.rsl n z l), none⟩)) m := fun ro ρ w e a h1 p h3 he h4 => by
 obtain ⟨ρ', p', sx, m2, f4, fV⟩ := p.frzArr hk hi hG
 have hne : id ≠ k := fun q => by subst q; rw [hg] at hk; cases hk
 have hg' : (h.put k .none).get id = .row ⟨t, N, .leaf, cs, none⟩ := by rw [Heap.get_put, if_neg hne]; exact hg
 have p2 := p'.cell (r' := ⟨t, N, .leaf, cs.set i (.rsl n z l), none⟩) hg' rfl rfl rfl rfl (fun j v hj q => by
  have hj : j < N := hj
  rw [row_at_n hN hj] at q
  rw [row_at_n (by rw [List.length_set]; exact hN) hj, getD_set (by omega)]
  by_cases eij : i = j
  ·subst eij
   rw [if_pos rfl]
   rw [hci] at q
   refine f4 v ?_
   simp only [VR] at q ⊢
   rw [fV] at q; exact q
  ·rw [if_neg eij]; exact q)
 obtain ⟨e', he', er'⟩ := known_env (σ := ρ') (L := L) (tm := a.tmps) (sz := sz) h3.1 (fun s v q => by
  have := h3.2 s
  rw [he s v q] at this
  exact ind_ok sx v (indL_at hL s v q) this)
 obtain ⟨D1, h5, h6⟩ := h4
 exact ⟨ρ', e', rox_out m2 hrd h1, p2, er', he', ⟨D1, mrx_out (X := X) m2 hm h5, h6⟩⟩
end
end Go.Px
end
section
namespace Go.Px
open Go.Deep Go.ChangeShapes Go.WideShapes
theorem read_sliceB {H : Type} {enc : TypeId × Value → H} {P : Program} {W : World} {α : Type} [Inhabited α] {en : α → List AV} {z : Nat} (hz : 0 < z) (hen : ∀ a, (en a).length = z) {t e : TypeId} (ht : P.underlying t = some (.slice e)) (hc : P.cellsOf e = z) {Q : α → DataW H → Prop} {B : DataW H → Prop}
  (hel : ∀ n cs y, B y.1 → DataW.trod enc P W 0 (fun _ => true) true n e cs = some y → ∃ x, VRs (fzm (held0 W)) (en x) cs ∧ Q x y.1)
  {n : Nat} {v : Value} {y : DataW H × List MemPlace} (hB : ∀ els sp, y.1 = .slice els sp → ∀ d ∈ els, B d) (h : DataW.trod enc P W 0 (fun _ => true) true n t [v] = some y) :
  ∃ l : List α, VR (fzm (held0 W)) (dsl z en l) v ∧ ((l = [] ∧ y.1 = .nil) ∨ ∃ els sp, y.1 = .slice els sp ∧ els.length = l.length ∧ ∀ i, i < l.length → ∃ d, els[i]? = some d ∧ Q (l.getD i default) d) := by
 rcases open_slice ht h with ⟨hv, rfl⟩ | ⟨a, len, cap, m, k, D, Pl, hv, hb, hl, hm, hmm, rfl, hx⟩
 ·have hv : v = .slice none 0 0 := by simpa using hv
  subst hv
  exact ⟨[], by simp [dsl, VR], .inl ⟨rfl, rfl⟩⟩
 ·have hv : v = .slice (some a) len cap := by simpa using hv
  subst hv
  rw [hc] at hx
  have hlm : len ≤ m := by rw [hmm]; split <;> omega
  obtain ⟨f, hf⟩ := choose_lt (α := α) (n := len) (p := fun i x => ∃ cs, W.cells? 0 (a.add (i * z)) z = some cs ∧ VRs (fzm (held0 W)) (en x) cs ∧ Q x (D i)) (fun i hi => by
   obtain ⟨cs', h1, h2⟩ := hx i (by omega)
   obtain ⟨x, x1, x2⟩ := hel _ _ _ (hB _ _ rfl _ (List.mem_map.2 ⟨i, List.mem_range.2 hi, rfl⟩)) h2
   exact ⟨x, cs', h1, x1, x2⟩)
  have hlen : ((List.range len).map f).length = len := by simp
  refine ⟨(List.range len).map f, ?_, .inr ⟨_, _, rfl, by simp, fun i hi => ?_⟩⟩
  ·unfold dsl
   rw [hlen]
   simp only [VR]
   refine ⟨by rw [flat_len hen, hlen], ?_⟩
   by_cases h0 : len = 0
   ·exact .inl ⟨h0, .inr ⟨a, cap, by rw [h0]⟩⟩
   ·right
    obtain ⟨B, o, spot⟩ := a
    have hspot : spot = none := by
     obtain ⟨cs, c1, c2, _⟩ := hf 0 (by omega)
     obtain ⟨_, q2, q3⟩ := World.cells?_some c1
     have q4 := q3 0 hz
     rw [List.getElem?_eq_getElem (by omega)] at q4
     simpa [Addr.add] using World.cell?_spot q4
    subst hspot
    refine ⟨B, o, cap, ((held0 W B).drop o).take (len * z), rfl, hl, ?_, fun j x hj => ?_⟩
    ·have key : ∀ k, k ≤ len → VRs (fzm (held0 W)) (((List.range k).map f).flatMap en) (((held0 W B).drop o).take (k * z)) := by
      intro k
      induction k with
      | zero => intro _; simp [VRs]
      | succ k ih =>
       intro hk
       have h1 := ih (by omega)
       obtain ⟨cs, c1, c2, _⟩ := hf k (by omega)
       obtain ⟨_, q2, q3⟩ := World.cells?_some c1
       have e : ((held0 W B).drop o).take ((k + 1) * z) = ((held0 W B).drop o).take (k * z) ++ cs := by
        rw [Nat.succ_mul, List.take_add]
        congr 1
        apply List.ext_getElem?
        intro r
        rw [List.drop_drop, List.getElem?_take]
        by_cases hr : r < z
        ·rw [if_pos hr, List.getElem?_drop]
         have q4 := q3 r hr
         rw [List.getElem?_eq_getElem (show r < cs.length by omega)] at q4 ⊢
         rw [add_plain, add_plain] at q4
         have := held0_at.2 q4
         rw [← this]
        ·rw [if_neg hr, List.getElem?_eq_none (by omega)]
       rw [List.range_succ, List.map_append, List.flatMap_append, e]
       refine h1.append ?_
       simpa using c2
     exact key len (Nat.le_refl _)
    ·rw [List.getElem?_take] at hj
     split at hj
     ·rw [List.getElem?_drop] at hj
      exact hj
     ·cases hj
  ·have hi' : i < len := by omega
   obtain ⟨cs, _, _, q⟩ := hf i hi'
   refine ⟨D i, by simp [hi'], ?_⟩
   rw [List.getD_eq_getElem?_getD]
   simpa [hi'] using q
end Go.Px
end
