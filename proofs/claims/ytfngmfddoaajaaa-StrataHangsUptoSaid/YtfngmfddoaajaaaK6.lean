/- Parts of the proof in YtfngmfddoaajaaaFin: PxVk, FhP, FhQ, FhR, PxVl. -/
import Derived.Test.YtfngmfddoaajaaaK5
/- PxVk -/
section
set_option linter.unusedVariables false
set_option linter.unusedSimpArgs false
namespace Go.Px
/-- which may come next -/
noncomputable def rdyG (ops : List Oper) (done : Nat) : Nat → List Nat → List Nat
  | _, [] => []
  | i, _ :: r => (match bitB done i with
    | true => rdyG ops done (i + 1) r
    | false => (match nth1 ops i with
      | some o => (match o.after.toList.all fun e => (match edgeB e with | true => (bitB done e.on && Nat.ble (e.on + 1) ops.length) | false => true) with
        | true => i :: rdyG ops done (i + 1) r
        | false => rdyG ops done (i + 1) r)
      | none => rdyG ops done (i + 1) r))
noncomputable def rdy (ops : List Oper) (done : Nat) : List Nat := rdyG ops done 0 (List.range ops.length)
theorem rdyG_mem (ops : List Oper) (done : Nat) : ∀ (r : List Nat) (i j : Nat), i ≤ j → j < i + r.length → bitB done j = false → (∃ o, nth1 ops j = some o ∧ ∀ e ∈ o.after.toList, edgeB e = true → bitB done e.on = true ∧ e.on < ops.length) → j ∈ rdyG ops done i r
  | [], i, j, h1, h2, _, _ => absurd h2 (by simp; omega)
  | x :: r, i, j, h1, h2, hb, ho => by
    have ih := fun (q : i ≠ j) => rdyG_mem ops done r (i + 1) j (by omega) (by simp at h2; omega) hb ho
    unfold rdyG
    by_cases hij : i = j
    · subst hij
      rw [hb]
      obtain ⟨o, e1, e2⟩ := ho
      simp only [e1]
      have : (o.after.toList.all fun e => (match edgeB e with | true => (bitB done e.on && Nat.ble (e.on + 1) ops.length) | false => true)) = true := by
        rw [List.all_eq_true]
        intro e he
        cases hg : edgeB e with
        | true =>
          obtain ⟨q1, q2⟩ := e2 e he hg
          simp only [q1, Bool.true_and]
          exact Nat.ble_eq_true_of_le q2
        | false => rfl
      simp [this]
    · have ih := ih hij
      split
      · exact ih
      · split
        · split
          · exact List.mem_cons_of_mem _ ih
          · exact ih
        · exact ih
theorem rdyG_spec (ops : List Oper) (done : Nat) : ∀ (r : List Nat) (i j : Nat), j ∈ rdyG ops done i r → bitB done j = false ∧ ∃ o, nth1 ops j = some o ∧ ∀ e ∈ o.after.toList, edgeB e = true → bitB done e.on = true ∧ e.on < ops.length
  | [], i, j, h => by cases h
  | x :: r, i, j, h => by
    have ih := rdyG_spec ops done r (i + 1) j
    unfold rdyG at h
    split at h
    · exact ih h
    · rename_i hb
      split at h
      · rename_i o ho
        split at h
        · rename_i ha
          rcases List.mem_cons.1 h with h | h
          · subst h
            refine ⟨hb, o, ho, fun e he hg => ?_⟩
            have := List.all_eq_true.1 ha e he
            simp only [hg, Bool.and_eq_true] at this
            exact ⟨this.1, Nat.le_of_ble_eq_true this.2⟩
          · exact ih h
        · exact ih h
      · exact ih h
theorem rdy_of {ops : Array Oper} {listed : Array Bool} {done i : Nat} (hs : listed.size = ops.size) (hd : ∀ i, i < ops.size → listed.getD i false = bitB done i) (h : i ∈ Region.ready .any ops listed) : i ∈ rdy ops.toList done ∧ i < ops.size := by
  unfold Region.ready at h
  rw [List.mem_filter] at h
  obtain ⟨h1, h2⟩ := h
  have hi : i < ops.size := List.mem_range.1 h1
  refine ⟨?_, hi⟩
  simp only [Bool.and_eq_true] at h2
  obtain ⟨h2, h3⟩ := h2
  have hl : listed.getD i false = false := by
    have : listed.getD i true = false := by simpa using h2
    rw [Array.getD_eq_getD_getElem?] at this ⊢
    rw [Array.getElem?_eq_getElem (by omega)] at this ⊢
    exact this
  refine rdyG_mem ops.toList done _ 0 i (Nat.zero_le _) (by simpa using hi) (by rw [← hd i hi]; exact hl) ?_
  rw [Array.getElem?_eq_getElem hi] at h3
  simp only [Option.map_some, Option.getD_some] at h3
  refine ⟨ops[i], by rw [nth1_eq]; simp [hi], fun e he hg => ?_⟩
  rw [Array.all_eq_true_iff_forall_mem] at h3
  have := h3 e (by simpa using he)
  rw [← edgeB_eq, hg] at this
  simp only [Bool.not_true, Bool.false_or] at this
  by_cases hj : e.on < ops.size
  · rw [← hd _ hj]; exact ⟨this, by simpa using hj⟩
  · rw [Array.getD_eq_getD_getElem?, Array.getElem?_eq_none (by omega)] at this; cases this
section
variable {X : Cx} {sz : Nat} {rd : Option Nat} {all : Array Oper} {k : List It} {L : List (Nat × AV)} {h : Heap} {m : List Nat} {Q : Post}
/-- what is left of such a region -/
def AnyT (X : Cx) (sz : Nat) (rd : Option Nat) (all : Array Oper) (fuel done : Nat) (s : St) (K : St → Prop) : Prop :=
  ∀ (listed : Array Bool), listed.size = all.size → (∀ i, i < all.size → listed.getD i false = bitB done i) →
  ∀ (ro : Option Nat) (ρ : Map) (w : World) (a : Act) (Q' : Exit → Act → World → Prop), RoX X ρ rd ro → PI X ρ s.h w → ER ρ s.e a.tmps sz → MRX X ρ s.m a.defers →
  (∀ s' a' w' ρ', K s' → RoX X ρ' rd ro → PI X ρ' s'.h w' → ER ρ' s'.e a'.tmps sz → MRX X ρ' s'.m a'.defers → Q' .normal a' w') → wpAnyIn (wideR ro) 0 X.c.P .any all Q' fuel listed a w
def AnyQ (X : Cx) (sz : Nat) (rd : Option Nat) (all : Array Oper) (fuel done : Nat) (k : List It) (Q : Post) : Post := fun x s => x = .normal ∧ AnyT X sz rd all fuel done s (fun s' => RunK X sz rd k Q .normal s')
theorem letsOut_of {Q1 Q2 : Exit → Act → World → Prop} (h : ∀ x a w, x ≠ .normal → Q1 x a w → Q2 x a w) (q : LetsOut Q1) : LetsOut Q2 := by
  obtain ⟨a, w, q⟩ := q
  exact ⟨a, w, h _ a w (fun q => by cases q) q⟩
theorem wpOpIn_post {F : Fence} {n : Nat} {P : Program} {ops : Array Oper} {Q1 Q2 : Exit → Act → World → Prop} (h : ∀ x a w, x ≠ .normal → Q1 x a w → Q2 x a w) {i : Nat} {K : Act → World → Prop} {a : Act} {w : World} (hh : wpOpIn F n P ops Q1 i K a w) : wpOpIn F n P ops Q2 i K a w := by
  unfold wpOpIn at *
  split
  · simpa [*] using hh
  · rename_i o ho
    simp only [ho] at hh
    split
    · rename_i hw
      simp only [hw, if_true] at hh
      unfold Oper.wpIn at *
      refine ⟨hh.1, ?_⟩
      have hh := hh.2
      generalize (o.semAt F.round a.eval).run P w = r at *
      cases r with
      | ok x w' =>
        cases x <;> simp only [Oper.uponIn] at hh ⊢ <;>
          first
            | exact hh
            | exact ⟨hh.1, CallsIn.mono hh.2 (fun e w'' he => by cases e <;> first | exact he | exact h _ _ _ (fun q => by cases q) he | exact letsOut_of h he)⟩
            | exact ⟨hh.1, RoundIn.mono hh.2 (fun e w'' he => by cases e <;> first | exact he | exact h _ _ _ (fun q => by cases q) he | exact letsOut_of h he)⟩
      | halt x w' => cases x <;> simp only [Oper.uponIn] at hh ⊢ <;> first | exact hh | exact h _ _ _ (fun q => by cases q) hh
    · rename_i hw; simp only [hw] at hh; exact hh
theorem Go.anyD (hm : X.c.P.follows .mixedOrders = true) {id : Nat} (n : Go X sz rd [] L h m (AnyQ X sz rd all all.toList.length 0 k Q)) : Go X sz rd (.code (.region id all true) :: k) L h m Q := ⟨fun e he => by
  intro ro ρ w a Q' h1 h2 h3 h4 h5
  obtain ⟨_, q⟩ : AnyQ X sz rd all all.toList.length 0 k Q .normal ⟨e, h, m⟩ := n.run e he
  refine wpIn_region_any hm ?_
  have := q (Array.replicate all.size false) (by simp) (fun i hi => by rw [Array.getD_eq_getD_getElem?, Array.getElem?_replicate, if_pos hi, bit_zero]; rfl) ro ρ { w with drawn := w.drawn + 1 } a Q' h1
    (h2.good ((Good.refl h2.hr h2.wf).draw rfl ⟨rfl, rfl, rfl, Nat.le_refl _⟩) (ArrKeep.refl h)) h3 h4 (fun s' a2 w2 ρ2 z1 z2 z3 z4 z5 => h5 .normal s' a2 w2 ρ2 z1 z2 z3 z4 z5)
  simpa using this⟩
theorem Go.anyEnd {fuel done : Nat} (hr : rdy all.toList done = []) (n : Go X sz rd k L h m Q) : Go X sz rd [] L h m (AnyQ X sz rd all fuel done k Q) := Go.nil fun e he => ⟨rfl, fun listed hs hd ro ρ w a Q' h1 h2 h3 h4 h5 => by
  have hnil : Region.ready .any all listed = [] := by
    cases q : Region.ready .any all listed with
    | nil => rfl
    | cons i r =>
      have := (rdy_of hs hd (i := i) (by rw [q]; exact List.mem_cons_self)).1
      rw [hr] at this; cases this
  have hq : Q' .normal a w := h5 _ a w ρ (n.run e he) h1 h2 h3 h4
  cases fuel with
  | zero => exact ⟨hnil, hq⟩
  | succ fuel =>
    refine ⟨fun _ => hq, fun i hi => ?_⟩
    rw [hnil] at hi; cases hi⟩
/-- the one that comes next, with what is left behind it -/
def NextA (X : Cx) (sz : Nat) (rd : Option Nat) (all : Array Oper) (fuel done : Nat) (k : List It) (L : List (Nat × AV)) (h : Heap) (m : List Nat) (Q : Post) (i : Nat) : Prop :=
  ∃ o, nth1 all.toList i = some o ∧ Ops X sz rd all [o] [] L h m (AnyQ X sz rd all fuel (orB done (bit1 i)) k Q)
theorem Go.anyStep {fuel done : Nat} (hne : ∀ listed, listed.size = all.size → (∀ i, i < all.size → listed.getD i false = bitB done i) → Region.ready .any all listed ≠ []) (H : ∀ i ∈ rdy all.toList done, NextA X sz rd all fuel done k L h m Q i) : Go X sz rd [] L h m (AnyQ X sz rd all (fuel + 1) done k Q) := Go.nil fun e he => ⟨rfl, fun listed hs hd ro ρ w a Q' h1 h2 h3 h4 h5 => by
  refine ⟨fun q => absurd q (hne listed hs hd), fun i hi => ?_⟩
  obtain ⟨hi1, hi2⟩ := rdy_of hs hd hi
  obtain ⟨o, ho, n⟩ := H i hi1
  rw [nth1_eq] at ho
  have ho' : all[i]? = some o := by simpa using ho
  let Q2 : Exit → Act → World → Prop := fun x a w => match x with | .normal => wpAnyIn (wideR ro) 0 X.c.P .any all Q' fuel (listed.setIfInBounds i true) a w | x => Q' x a w
  have g := n.run e he [i] (by simp [ho']) ro ρ w a Q2 h1 h2 h3 h4 (fun s' a' w' ρ' z1 z2 z3 z4 z5 => by
    obtain ⟨_, z1⟩ : AnyQ X sz rd all fuel (orB done (bit1 i)) k Q .normal s' := z1
    refine z1 (listed.setIfInBounds i true) (by simpa using hs) (fun j hj => ?_) ro ρ' w' a' Q' z2 z3 z4 z5 h5
    rw [bit_or, bit_one, ← hd j hj, Array.getD_eq_getD_getElem?, Array.getD_eq_getD_getElem?, Array.getElem?_setIfInBounds]
    by_cases hij : i = j
    · subst hij
      rw [if_pos rfl, if_pos (by omega)]
      simp
    · rw [if_neg hij]
      have : decide (j = i) = false := by simpa using fun q => hij q.symm
      rw [this, Bool.or_false])
  rw [wpOpsIn_cons] at g
  refine wpOpIn_mono (fun a w q => ?_) (wpOpIn_post (Q2 := Q') (fun x a w hx q => by cases x <;> first | exact q | exact absurd rfl hx) g)
  exact q⟩
theorem ready_ne {done i : Nat} {r : List Nat} (hr : rdy all.toList done = i :: r) (listed : Array Bool) (hs : listed.size = all.size) (hd : ∀ i, i < all.size → listed.getD i false = bitB done i) : Region.ready .any all listed ≠ [] := fun q => by
  obtain ⟨h1, o, h2, h3⟩ := rdyG_spec all.toList done (List.range all.toList.length) 0 i (by rw [← rdy, hr]; exact List.mem_cons_self)
  rw [nth1_eq] at h2
  have ho : all[i]? = some o := by simpa using h2
  have hi : i < all.size := by
    rcases Nat.lt_or_ge i all.size with h | h
    · exact h
    · rw [Array.getElem?_eq_none h] at ho; cases ho
  have : i ∈ Region.ready .any all listed := by
    unfold Region.ready
    rw [List.mem_filter]
    refine ⟨List.mem_range.2 hi, ?_⟩
    have e1 : listed.getD i true = false := by
      have := hd i hi
      rw [h1] at this
      rw [Array.getD_eq_getD_getElem?] at this ⊢
      rw [Array.getElem?_eq_getElem (by omega)] at this ⊢
      exact this
    rw [e1, ho]
    simp only [Option.map_some, Option.getD_some, Bool.not_false, Bool.true_and]
    rw [Array.all_eq_true_iff_forall_mem]
    intro e he
    cases hg : edgeB e with
    | false => rw [edgeB_eq] at hg; rw [hg]; rfl
    | true =>
      obtain ⟨q1, q2⟩ := h3 e (by simpa using he) hg
      rw [← edgeB_eq, hg, hd e.on (by simpa using q2), q1]; rfl
  rw [q] at this; cases this
section
variable {fuel done : Nat}
theorem Go.any1 {i : Nat} {o : Oper} (hr : rdy all.toList done = [i]) (ho : nth1 all.toList i = some o) (n : Ops X sz rd all [o] [] L h m (AnyQ X sz rd all fuel (orB done (bit1 i)) k Q)) : Go X sz rd [] L h m (AnyQ X sz rd all (fuel + 1) done k Q) :=
  Go.anyStep (ready_ne hr) fun j hj => by
    rw [hr] at hj
    rcases List.mem_singleton.1 hj with rfl
    exact ⟨o, ho, n⟩
theorem Go.any2 {i i2 : Nat} {o o2 : Oper} (hr : rdy all.toList done = [i, i2]) (ho : nth1 all.toList i = some o) (ho2 : nth1 all.toList i2 = some o2) (n : Ops X sz rd all [o] [] L h m (AnyQ X sz rd all fuel (orB done (bit1 i)) k Q)) (n2 : Ops X sz rd all [o2] [] L h m (AnyQ X sz rd all fuel (orB done (bit1 i2)) k Q)) : Go X sz rd [] L h m (AnyQ X sz rd all (fuel + 1) done k Q) :=
  Go.anyStep (ready_ne hr) fun j hj => by
    rw [hr] at hj
    rcases List.mem_cons.1 hj with rfl | hj
    · exact ⟨o, ho, n⟩
    rcases List.mem_singleton.1 hj with rfl
    exact ⟨o2, ho2, n2⟩
theorem Go.any3 {i i2 i3 : Nat} {o o2 o3 : Oper} (hr : rdy all.toList done = [i, i2, i3]) (ho : nth1 all.toList i = some o) (ho2 : nth1 all.toList i2 = some o2) (ho3 : nth1 all.toList i3 = some o3) (n : Ops X sz rd all [o] [] L h m (AnyQ X sz rd all fuel (orB done (bit1 i)) k Q)) (n2 : Ops X sz rd all [o2] [] L h m (AnyQ X sz rd all fuel (orB done (bit1 i2)) k Q)) (n3 : Ops X sz rd all [o3] [] L h m (AnyQ X sz rd all fuel (orB done (bit1 i3)) k Q)) : Go X sz rd [] L h m (AnyQ X sz rd all (fuel + 1) done k Q) :=
  Go.anyStep (ready_ne hr) fun j hj => by
    rw [hr] at hj
    rcases List.mem_cons.1 hj with rfl | hj
    · exact ⟨o, ho, n⟩
    rcases List.mem_cons.1 hj with rfl | hj
    · exact ⟨o2, ho2, n2⟩
    rcases List.mem_singleton.1 hj with rfl
    exact ⟨o3, ho3, n3⟩
end
end
/-! ## results that stand in boxes -/
def ldO (t a : Nat) : Oper := { dst := none, op := .load t (.tmp a), type := t, pos := "", after := #[], guard := none }
def ResH (X : Cx) (L : List (Nat × AV)) (h : Heap) : List ResultVar → List AV → Prop
  | [], [] => True
  | .tmp t :: r, v :: vs => lkO L t = some v ∧ ResH X L h r vs
  | .cell a t :: r, v :: vs => Hop X L h (ldO t a) v h ∧ ResH X L h r vs
  | _, _ => False
theorem resH_ok {X : Cx} {h : Heap} {L : List (Nat × AV)} {e : T AV} (he : Has e L) : ∀ {res : List ResultVar} {vs : List AV}, ResH X L h res vs → resA X.c h e res = some vs
  | [], [], _ => rfl
  | [], _ :: _, q => q.elim
  | .tmp t :: r, [], q => q.elim
  | .cell a t :: r, [], q => q.elim
  | .tmp t :: r, v :: vs, ⟨q1, q2⟩ => by
    have h1 := resH_ok he q2
    have h2 := he t v q1
    unfold resA at h1 ⊢
    simp only [h2, h1]
  | .cell a t :: r, v :: vs, ⟨q1, q2⟩ => by
    have h1 := resH_ok he q2
    have h2 := q1 e he
    have h3 : oLoad X.c h t (e.get und a) = some v := by
      have h2 : val h (oLoad X.c h t (e.get und a)) = some (.v v h) := h2
      cases q : oLoad X.c h t (e.get und a) with
      | none => rw [q] at h2; cases h2
      | some x => rw [q] at h2; cases h2; rfl
    unfold resA at h1 ⊢
    simp only [h3, h1]
theorem Go.retFc {X : Cx} {sz : Nat} {rd : Option Nat} {k : List It} {L : List (Nat × AV)} {h : Heap} {m : List Nat} {res : List ResultVar} {v : AV} (vs : List AV) {h' : Heap} (hl : leave h m = some h') (hr : ResH X L h' res vs) (hv : one vs = v) (hd : datB v = true) : Go X sz rd (.code .ret :: k) L h m (Fin X.c res v) :=
  Go.ret fun e he => ⟨.inr rfl, h', vs, hl, resH_ok he hr, hv, hd⟩
/-- what was appended last is written -/
theorem Hop.storeEnd {X : Cx} {tb : List (Nat × TE)} (E : Env X.c tb) {o : Oper} {L : List (Nat × AV)} {h : Heap} {t : Nat} {x y : Operand} {id n off ty z : Nat} {v : AV} {l : List AV} {e : TE} (A Z : List AV) (ho : o.op = .store t x y) (hx : evL L x = some (.optr id n off)) (hy : evL L y = some v) (ht : lkT tb t = some e) (hl : Nat.beq e.s v.cells.length = true) (hg : h.get id = .arr ty z n l) (hl2 : l = A ++ Z) (hA : off = A.length) (hZ : Z.length = v.cells.length) (h1 : ones v.cells = true) (h2 : datsB v.cells = true) (hz1 : Nat.ble 1 e.s = true := by rfl) :
    Hop X L h o und (h.put id (.arr ty z n (A ++ v.cells))) := by
  subst hl2
  subst hA
  have q := Hop.storeO (X := X) (L := L) (h := h) (o := o) E ho hx hy ht hl hg h1 h2 (by rw [List.length_append, hZ]; exact Nat.le_refl _) hz1
  rw [List.take_left, ← hZ, List.drop_eq_nil_of_le (by rw [List.length_append]; exact Nat.le_refl _), List.append_nil] at q
  exact q
end Go.Px
end
/- FhP -/
section
set_option linter.unusedVariables false
set_option linter.unusedSimpArgs false
set_option maxHeartbeats 4000000
set_option maxRecDepth 20000
namespace Go.Px.Fh
open Go.Proofs Go.Px.Fx
attribute [local irreducible] Go.Px.KOk
noncomputable def e23 (l : List Str) (h : l.length ≤ 100000) : Ent cF := ⟨23, Unit, fun _ => [llA [l]], fun _ => strsA (VarsG l), fun _ => by have := k23 [l] (by simpa using h) (by simp); rwa [show [l].flatten = l from List.append_nil l] at this, fun _ => rfl, fun _ _ _ => rfl⟩
theorem k8 (nm : Str) (av : List Str) (body : List Cl) (hb : cntL body ≤ 10000) : KOk cF 8 [ruA nm av body] (.tup [strsA (VarsG (alls (callsL false body))), strsA (VarsG (nots (callsL false body)))]) := by
  have hl := callsL_len false body
  have k1 := k22 body false
  have it := it44 (cntL body + 1) body false (by omega) (by omega)
  generalize callsL false body = ps at *
  have ha := alls_len ps
  have hn := nots_len ps
  refine KOk.of cF_ok eF.g Try.func8 rfl (Nat.le_of_ble_eq_true rfl) fun w F => ?_
  repeat' first | refine Go.seq ?_ | refine Go.region rfl ?_ | refine Ops.nil ?_ | refine Ops.boxR eF rfl rfl (by first | exact Want.no rfl | exact Want.tT rfl rfl rfl rfl | exact Want.fF rfl rfl rfl rfl) rfl rfl rfl rfl ?_ | refine Ops.val eF rfl rfl (by first | exact Want.no rfl | exact Want.tT rfl rfl rfl rfl | exact Want.fF rfl rfl rfl rfl) (by first | exact Hop.faR eF rfl rfl rfl rfl rfl rfl rfl | exact Hop.ldR eF rfl rfl rfl rfl rfl) ?_ | refine Ops.call eF rfl rfl (by first | exact Want.no rfl | exact Want.tT rfl rfl rfl rfl | exact Want.fF rfl rfl rfl rfl) rfl rfl rfl rfl (k1) rfl ?_ | refine Ops.rowAt eF 0 rfl rfl (by first | exact Want.no rfl | exact Want.tT rfl rfl rfl rfl | exact Want.fF rfl rfl rfl rfl) rfl (Hop.alloc eF rfl rfl rfl) ?_ | refine Ops.rowAt eF 1 rfl rfl (by first | exact Want.no rfl | exact Want.tT rfl rfl rfl rfl | exact Want.fF rfl rfl rfl rfl) rfl (Hop.alloc eF rfl rfl rfl) ?_ | refine Go.block ?_
  refine Go.change (Chg.tokCell 2 0 9 1 rfl rfl rfl) ?_
  refine Go.change (Chg.tokCell 3 1 9 1 rfl rfl rfl) ?_
  refine Go.to (M := [(2, .ptr 0 0), (3, .ptr 1 0), (8, .fn (.func 44) [] [.rptr [clsA body], .rptr [.bool false]])]) ?_ ⟨rfl, rfl, rfl, trivial⟩
  refine Go.rangeK eF 4 rfl rfl rfl it rfl (fun j => hq 5 [.row ⟨25, 1, .leaf, [.own 2 (alls (ps.take j)).length 1], none⟩, .row ⟨25, 1, .leaf, [.own 3 (nots (ps.take j)).length 1], none⟩, .arr 9 1 (alls (ps.take j)).length ((alls (ps.take j)).flatMap Fx.encS), .arr 9 1 (nots (ps.take j)).length ((nots (ps.take j)).flatMap Fx.encS), .dfr true])
    (fun b => ChgE.cut _ rfl eF.g rfl ⟨.inr rfl, .inr rfl, .inr rfl, .inr rfl, .inr rfl, trivial⟩ ⟨low_row rfl rfl, low_row rfl rfl, trivial, trivial, trivial, trivial⟩) (fun j v hv => by rw [(itemB_at hv).2]; rfl) rfl (fun j v hv b2 => ?_) ?_
  · obtain ⟨hj, rfl⟩ := itemB_at hv
    have ha1 := alls_len (ps.take j)
    have hn1 := nots_len (ps.take j)
    have ea := alls_succ hj
    have en1 := fun q => nots_t hj q
    have en2 := fun q => nots_f hj q
    rw [List.length_take] at ha1 hn1
    generalize ps.getD j default = p at *
    obtain ⟨c, by'⟩ := p
    cases by' with
    | true =>
      have en := en1 rfl
      repeat' first | refine Go.seq ?_ | refine Go.region rfl ?_ | refine Ops.nil ?_ | refine Ops.val eF rfl rfl (by first | exact Want.no rfl | exact Want.tT rfl rfl rfl rfl | exact Want.fF rfl rfl rfl rfl) (by first | exact Hop.assign rfl rfl) ?_ | refine Ops.rowAt eF 5 rfl rfl (by first | exact Want.no rfl | exact Want.tT rfl rfl rfl rfl | exact Want.fF rfl rfl rfl rfl) rfl (Hop.alloc eF rfl rfl rfl) ?_ | refine Ops.unit eF rfl (by first | exact Want.no rfl | exact Want.tT rfl rfl rfl rfl | exact Want.fF rfl rfl rfl rfl) (Hop.store eF rfl rfl rfl rfl rfl rfl) (ArrKeep.put rfl) ?_
      refine Go.bodyK (fun b3 => ?_)
      repeat' first | refine Go.seq ?_ | refine Go.region rfl ?_ | refine Ops.nil ?_ | refine Ops.val eF rfl rfl (by first | exact Want.no rfl | exact Want.tT rfl rfl rfl rfl | exact Want.fF rfl rfl rfl rfl) (by first | exact Hop.move rfl rfl | exact Hop.faP eF rfl rfl rfl rfl rfl rfl rfl | exact Hop.ldP eF rfl rfl rfl rfl rfl rfl rfl) ?_ | refine Ops.data eF rfl rfl (by first | exact Want.no rfl | exact Want.tT rfl rfl rfl rfl | exact Want.fF rfl rfl rfl rfl) rfl (Hop.bslice eF rfl rfl rfl rfl rfl rfl rfl rfl rfl rfl rfl) rfl rfl ?_ | refine Ops.appendE eF rfl rfl (by first | exact Want.no rfl | exact Want.tT rfl rfl rfl rfl | exact Want.fF rfl rfl rfl rfl) rfl rfl rfl rfl rfl rfl rfl rfl rfl rfl rfl rfl rfl rfl rfl rfl (by repeat' first | exact trivial | refine And.intro ?_ ?_ | exact .inr trivial | exact .inr (ind_row rfl rfl) | exact .inr rfl | exact .inl rfl | exact .inr (hindL _ _)) rfl rfl rfl rfl rfl (by first | rfl | exact ones_flat (fun _ => rfl) _) (by omega) ?_ | refine Ops.unit eF rfl (by first | exact Want.no rfl | exact Want.tT rfl rfl rfl rfl | exact Want.fF rfl rfl rfl rfl) (Hop.store eF rfl rfl rfl rfl rfl rfl) (ArrKeep.put rfl) ?_ | refine Go.condT rfl ?_ | refine Go.block ?_ | refine Go.unblk ?_
      refine Go.nextK ?_
      simp only [ea, en, List.length_append, List.length_cons, List.length_nil, Nat.zero_add, List.flatMap_append, List.flatMap_cons, List.flatMap_nil, List.append_nil]
      exact ChgE.cut _ rfl eF.g rfl ⟨.inr rfl, .inr rfl, .inr rfl, .inr rfl, .inr rfl, trivial⟩ ⟨low_row rfl rfl, low_row rfl rfl, trivial, trivial, trivial, trivial⟩
    | false =>
      have en := en2 (by simp)
      repeat' first | refine Go.seq ?_ | refine Go.region rfl ?_ | refine Ops.nil ?_ | refine Ops.val eF rfl rfl (by first | exact Want.no rfl | exact Want.tT rfl rfl rfl rfl | exact Want.fF rfl rfl rfl rfl) (by first | exact Hop.assign rfl rfl) ?_ | refine Ops.rowAt eF 5 rfl rfl (by first | exact Want.no rfl | exact Want.tT rfl rfl rfl rfl | exact Want.fF rfl rfl rfl rfl) rfl (Hop.alloc eF rfl rfl rfl) ?_ | refine Ops.unit eF rfl (by first | exact Want.no rfl | exact Want.tT rfl rfl rfl rfl | exact Want.fF rfl rfl rfl rfl) (Hop.store eF rfl rfl rfl rfl rfl rfl) (ArrKeep.put rfl) ?_
      refine Go.bodyK (fun b3 => ?_)
      repeat' first | refine Go.seq ?_ | refine Go.region rfl ?_ | refine Ops.nil ?_ | refine Ops.val eF rfl rfl (by first | exact Want.no rfl | exact Want.tT rfl rfl rfl rfl | exact Want.fF rfl rfl rfl rfl) (by first | exact Hop.move rfl rfl | exact Hop.faP eF rfl rfl rfl rfl rfl rfl rfl | exact Hop.ldP eF rfl rfl rfl rfl rfl rfl rfl) ?_ | refine Ops.data eF rfl rfl (by first | exact Want.no rfl | exact Want.tT rfl rfl rfl rfl | exact Want.fF rfl rfl rfl rfl) rfl (Hop.bslice eF rfl rfl rfl rfl rfl rfl rfl rfl rfl rfl rfl) rfl rfl ?_ | refine Ops.appendE eF rfl rfl (by first | exact Want.no rfl | exact Want.tT rfl rfl rfl rfl | exact Want.fF rfl rfl rfl rfl) rfl rfl rfl rfl rfl rfl rfl rfl rfl rfl rfl rfl rfl rfl rfl rfl (by repeat' first | exact trivial | refine And.intro ?_ ?_ | exact .inr trivial | exact .inr (ind_row rfl rfl) | exact .inr rfl | exact .inl rfl | exact .inr (hindL _ _)) rfl rfl rfl rfl rfl (by first | rfl | exact ones_flat (fun _ => rfl) _) (by omega) ?_ | refine Ops.unit eF rfl (by first | exact Want.no rfl | exact Want.tT rfl rfl rfl rfl | exact Want.fF rfl rfl rfl rfl) (Hop.store eF rfl rfl rfl rfl rfl rfl) (ArrKeep.put rfl) ?_ | refine Go.condF rfl ?_ | refine Go.block ?_ | refine Go.unblk ?_ | refine Go.skip ?_
      refine Go.nextK ?_
      simp only [ea, en, List.length_append, List.length_cons, List.length_nil, Nat.zero_add, List.flatMap_append, List.flatMap_cons, List.flatMap_nil, List.append_nil]
      exact ChgE.cut _ rfl eF.g rfl ⟨.inr rfl, .inr rfl, .inr rfl, .inr rfl, .inr rfl, trivial⟩ ⟨low_row rfl rfl, low_row rfl rfl, trivial, trivial, trivial, trivial⟩
  · rw [List.length_map, List.take_length]
    refine Go.unblk ?_
    refine Go.change (Chg.cellFrz 0 2 rfl rfl (by repeat' first | exact trivial | exact .inl rfl | exact .inr trivial | exact .inr (ind_row rfl rfl) | refine And.intro ?_ ?_) rfl rfl rfl) ?_
    refine Go.change (Chg.cellFrz 1 3 rfl rfl (by repeat' first | exact trivial | exact .inl rfl | exact .inr trivial | exact .inr (ind_row rfl rfl) | refine And.intro ?_ ?_) rfl rfl rfl) ?_
    have ka : KOk cF 23 [llA [alls ps]] (strsA (VarsG (alls ps))) := (e23 (alls ps) (by omega)).ok ()
    have kn : KOk cF 23 [llA [nots ps]] (strsA (VarsG (nots ps))) := (e23 (nots ps) (by omega)).ok ()
    refine Go.seq ?_
    refine Go.anyD hm ?_
    repeat' first | refine Ops.nil ?_ | refine Ops.val eF rfl rfl (by first | exact Want.no rfl | exact Want.tT rfl rfl rfl rfl | exact Want.fF rfl rfl rfl rfl) (by first | exact Hop.ldP eF rfl rfl rfl rfl rfl rfl rfl) ?_ | refine Ops.call eF rfl rfl (by first | exact Want.no rfl | exact Want.tT rfl rfl rfl rfl | exact Want.fF rfl rfl rfl rfl) rfl rfl rfl rfl (ka) rfl ?_ | refine Ops.call eF rfl rfl (by first | exact Want.no rfl | exact Want.tT rfl rfl rfl rfl | exact Want.fF rfl rfl rfl rfl) rfl rfl rfl rfl (kn) rfl ?_ | refine Ops.data eF rfl rfl (by first | exact Want.no rfl | exact Want.tT rfl rfl rfl rfl | exact Want.fF rfl rfl rfl rfl) rfl (Hop.bslice eF rfl rfl rfl rfl rfl rfl rfl rfl rfl rfl rfl) rfl rfl ?_ | refine Ops.unit eF rfl (by first | exact Want.no rfl | exact Want.tT rfl rfl rfl rfl | exact Want.fF rfl rfl rfl rfl) (Hop.store eF rfl rfl rfl rfl rfl rfl) (ArrKeep.put rfl) ?_ | refine Go.anyEnd rfl ?_ | refine Go.any1 rfl rfl ?_ | refine Go.any2 rfl rfl rfl ?_ ?_
    all_goals exact Go.retFc [_, _] rfl ⟨Hop.ldP eF rfl rfl rfl rfl rfl rfl rfl, Hop.ldP eF rfl rfl rfl rfl rfl rfl rfl, trivial⟩ rfl rfl
end Go.Px.Fh
end
/- FhQ -/
section
set_option linter.unusedVariables false
set_option linter.unusedSimpArgs false
set_option maxHeartbeats 4000000
set_option maxRecDepth 20000
namespace Go.Px.Fh
open Go.Proofs Go.Px.Fx
attribute [local irreducible] Go.Px.KOk
def clsP (l : List (Cl × Bool)) : List Cl := l.map Prod.fst
theorem clsP_succ {l : List (Cl × Bool)} {i : Nat} (h : i < l.length) : clsP (l.take (i + 1)) = clsP (l.take i) ++ [(l.getD i default).1] := by
  unfold clsP
  rw [take_succ' h, List.map_append]; rfl
theorem clsP_len (l : List (Cl × Bool)) : (clsP l).length = l.length := by simp [clsP]
theorem k10 (body : List Cl) (hb : cntL body ≤ 10000) : KOk cF 10 [clsA body] (dsl 5 encF (clsP (callsL false body))) := by
  have hl := callsL_len false body
  have k1 := k22 body false
  have it := it44 (cntL body + 1) body false (by omega) (by omega)
  generalize callsL false body = ps at *
  have ha := clsP_len ps
  refine KOk.of cF_ok eF.g Try.func10 rfl (Nat.le_of_ble_eq_true rfl) fun w F => ?_
  repeat' first | refine Go.seq ?_ | refine Go.region rfl ?_ | refine Ops.nil ?_ | refine Ops.val eF rfl rfl (by first | exact Want.no rfl | exact Want.tT rfl rfl rfl rfl | exact Want.fF rfl rfl rfl rfl) (by first | exact Hop.move rfl rfl | exact Hop.assign rfl rfl) ?_ | refine Ops.call eF rfl rfl (by first | exact Want.no rfl | exact Want.tT rfl rfl rfl rfl | exact Want.fF rfl rfl rfl rfl) rfl rfl rfl rfl (k1) rfl ?_ | refine Ops.rowAt eF 0 rfl rfl (by first | exact Want.no rfl | exact Want.tT rfl rfl rfl rfl | exact Want.fF rfl rfl rfl rfl) rfl (Hop.alloc eF rfl rfl rfl) ?_ | refine Go.block ?_
  refine Go.change (Chg.tokCell 1 0 41 5 rfl rfl rfl) ?_
  refine Go.to (M := [(3, .ptr 0 0), (6, .fn (.func 44) [] [.rptr [clsA body], .rptr [.bool false]])]) ?_ ⟨rfl, rfl, trivial⟩
  refine Go.rangeK eF 2 rfl rfl rfl it rfl (fun j => hq 3 [.row ⟨31, 1, .leaf, [.own 1 (clsP (ps.take j)).length 5], none⟩, .arr 41 5 (clsP (ps.take j)).length ((clsP (ps.take j)).flatMap encF), .dfr true])
    (fun b => ChgE.cut _ rfl eF.g rfl ⟨.inr rfl, .inr rfl, .inr rfl, trivial⟩ ⟨low_row rfl rfl, trivial, trivial, trivial⟩) (fun j v hv => by rw [(itemB_at hv).2]; rfl) rfl (fun j v hv b2 => ?_) ?_
  · obtain ⟨hj, rfl⟩ := itemB_at hv
    have ha1 := clsP_len (ps.take j)
    have ea := clsP_succ hj
    rw [List.length_take] at ha1
    have hfl : ((clsP (ps.take j)).flatMap encF).length = (clsP (ps.take j)).length * 5 := flat_len (enc := encF) (fun _ => rfl) _
    have hfl' : (((clsP (ps.take j)).length : Int).toNat) * 5 = ((clsP (ps.take j)).flatMap encF).length := hfl.symm
    generalize ps.getD j default = p at *
    obtain ⟨c, by'⟩ := p
    repeat' first | refine Go.region rfl ?_ | refine Ops.nil ?_ | refine Ops.rowAt eF 3 rfl rfl (by first | exact Want.no rfl | exact Want.tT rfl rfl rfl rfl | exact Want.fF rfl rfl rfl rfl) rfl (Hop.alloc eF rfl rfl rfl) ?_ | refine Ops.unit eF rfl (by first | exact Want.no rfl | exact Want.tT rfl rfl rfl rfl | exact Want.fF rfl rfl rfl rfl) (Hop.store eF rfl rfl rfl rfl rfl rfl) (ArrKeep.put rfl) ?_
    refine Go.bodyK (fun b3 => ?_)
    repeat' first | refine Go.block ?_
    refine Go.anyD hm ?_
    repeat' first | refine Ops.nil ?_ | refine Ops.unit eF rfl (by first | exact Want.no rfl | exact Want.tT rfl rfl rfl rfl | exact Want.fF rfl rfl rfl rfl) (Hop.storeEnd eF ((clsP (ps.take j)).flatMap encF) _ rfl rfl rfl rfl rfl rfl rfl hfl' rfl rfl rfl) (ArrKeep.arr rfl) ?_ | refine Ops.val eF rfl rfl (by first | exact Want.no rfl | exact Want.tT rfl rfl rfl rfl | exact Want.fF rfl rfl rfl rfl) (by first | exact Hop.idxO eF rfl rfl rfl rfl rfl rfl rfl (by omega) | exact Hop.ldP eF rfl rfl rfl rfl rfl rfl rfl | exact Hop.ldPG eF rfl rfl rfl rfl rfl rfl rfl | exact Hop.lenO eF rfl rfl rfl rfl rfl rfl rfl) ?_ | refine Ops.data eF rfl rfl (by first | exact Want.no rfl | exact Want.tT rfl rfl rfl rfl | exact Want.fF rfl rfl rfl rfl) rfl (Hop.bslice eF rfl rfl rfl rfl rfl rfl rfl rfl rfl rfl rfl) rfl rfl ?_ | refine Ops.appendE eF rfl rfl (by first | exact Want.no rfl | exact Want.tT rfl rfl rfl rfl | exact Want.fF rfl rfl rfl rfl) rfl rfl rfl rfl rfl rfl rfl rfl rfl rfl rfl rfl rfl rfl rfl rfl (by repeat' first | exact trivial | refine And.intro ?_ ?_ | exact .inr trivial | exact .inr (ind_row rfl rfl) | exact .inr rfl | exact .inl rfl | exact .inr (hindL _ _)) rfl rfl rfl rfl rfl (by first | rfl | exact ones_flat (fun _ => rfl) _) (by omega) ?_ | refine Ops.unit eF rfl (by first | exact Want.no rfl | exact Want.tT rfl rfl rfl rfl | exact Want.fF rfl rfl rfl rfl) (Hop.store eF rfl rfl rfl rfl rfl rfl) (ArrKeep.put rfl) ?_ | refine Go.unblk ?_ | refine Go.anyEnd rfl ?_ | refine Go.any1 rfl rfl ?_ | refine Go.any2 rfl rfl rfl ?_ ?_ | refine Go.any3 rfl rfl rfl rfl ?_ ?_ ?_
    all_goals
      refine Go.nextK ?_
      rw [ea, List.length_append, List.flatMap_append]
      exact ChgE.cut _ rfl eF.g rfl ⟨.inr rfl, .inr rfl, .inr rfl, trivial⟩ ⟨low_row rfl rfl, trivial, trivial, trivial⟩
  · rw [List.length_map, List.take_length]
    refine Go.unblk ?_
    refine Go.change (Chg.cellFrz 0 1 rfl rfl (by repeat' first | exact trivial | exact .inl rfl | exact .inr trivial | exact .inr (ind_row rfl rfl) | refine And.intro ?_ ?_) rfl rfl rfl) ?_
    repeat' first | refine Go.seq ?_ | refine Go.region rfl ?_ | refine Ops.nil ?_ | refine Ops.val eF rfl rfl (by first | exact Want.no rfl | exact Want.tT rfl rfl rfl rfl | exact Want.fF rfl rfl rfl rfl) (by first | exact Hop.assign rfl rfl | exact Hop.ldP eF rfl rfl rfl rfl rfl rfl rfl) ?_ | refine Go.retFm rfl rfl ?_ rfl
    all_goals rfl
end Go.Px.Fh
end
/- FhR -/
section
set_option linter.unusedVariables false
set_option linter.unusedSimpArgs false
set_option maxHeartbeats 4000000
set_option maxRecDepth 20000
namespace Go.Px.Fh
open Go.Proofs Go.Px.Fx
attribute [local irreducible] Go.Px.KOk
mutual
theorem callsC_kind (b : Bool) : ∀ (c : Cl) (p : Cl × Bool), p ∈ callsC b c → p.1.k = 4
  | .mk k n a o kids, p, h => by
    simp only [callsC, List.mem_append] at h
    rcases h with h | h
    · by_cases q : (Cl.mk k n a o kids).k = 4
      · unfold hdC at h
        rw [bd_of q] at h
        rcases List.mem_singleton.1 h with rfl
        exact q
      · unfold hdC at h
        rw [bd_no q] at h
        cases h
    · exact callsL_kind _ kids p h
theorem callsL_kind (b : Bool) : ∀ (l : List Cl) (p : Cl × Bool), p ∈ callsL b l → p.1.k = 4
  | [], p, h => by cases h
  | c :: r, p, h => by
    simp only [callsL, List.mem_append] at h
    rcases h with h | h
    · exact callsC_kind b c p h
    · exact callsL_kind b r p h
end
theorem wideG_01 (l : List Cl) : wideG l = 0 ∨ wideG l = 1 := by
  by_cases h : 60 < mnL 0 0 l ∨ 6 < dpL 0 l
  · right; rw [wideG, bif_t h]
  · left; rw [wideG, bif_f h]
theorem clsP_at (l : List (Cl × Bool)) (i : Nat) : (clsP l).getD i default = (l.getD i default).1 := by
  unfold clsP
  rw [List.getD_eq_getElem?_getD, List.getD_eq_getElem?_getD, List.getElem?_map]
  cases l[i]? <;> rfl
theorem shG_len (l : List Cl) (q : Int) (o : List Str) (h : cntL l ≤ 10000) : (shG l q o).length ≤ 2000000 := by
  have h1 := vars_at (l := l) q.toNat h
  have h2 : (shG l q o).length ≤ (VarsG (l.getD q.toNat default).vars).length := List.length_filter_le _ _
  omega
noncomputable def r4_0 : List Oper := ((drawn (Try.f4.body.getD .skip))[0]?).getD []
theorem dr4_0 : chkOrd cF r4_0 [0, 1, 2, 3, 4, 5, 6, 7, 8, 9, 10, 11, 12, 13, 14, 15, 16, 17, 18, 19, 20, 21, 22, 23, 24, 25, 26, 27, 28, 29, 30, 31, 32] = true := by kernel_rfl
theorem k4 (nm : Str) (av : List Str) (body : List Cl) (hb : cntL body ≤ 2000000) (hav : av.length ≤ 2000000) : KOk cF 4 [ruA nm av body] (.bool true) := by
  have k7' := k7 body hb
  unfold ruA
  rw [clsA_eq] at k7' ⊢
  refine KOk.of cF_ok eF.g Try.func4 rfl (Nat.le_of_ble_eq_true rfl) fun w F => ?_
  repeat' first | refine Go.seq ?_ | refine Go.region rfl ?_ | refine Ops.nil ?_ | refine Ops.val eF rfl rfl (by first | exact Want.no rfl | exact Want.tT rfl rfl rfl rfl | exact Want.fF rfl rfl rfl rfl) (by first | exact Hop.move rfl rfl | exact Hop.assign rfl rfl | exact Hop.pickT rfl rfl rfl | exact Hop.pickF rfl rfl rfl | exact Hop.gtr rfl rfl rfl | exact Hop.faR eF rfl rfl rfl rfl rfl rfl rfl | exact Hop.ldR eF rfl rfl rfl rfl rfl | exact Hop.ldRG eF rfl rfl rfl rfl rfl | exact Hop.lenD eF rfl rfl rfl rfl rfl rfl rfl) ?_ | refine Ops.skip rfl rfl (by first | exact Want.fT rfl rfl rfl rfl | exact Want.tF rfl rfl rfl rfl | exact Want.und rfl rfl rfl rfl) ?_ | refine Ops.gP rfl rfl (fun _ => ?_) (fun _ => ?_) | refine Ops.call eF rfl rfl (by first | exact Want.no rfl | exact Want.tT rfl rfl rfl rfl | exact Want.fF rfl rfl rfl rfl) rfl rfl rfl rfl (k7') rfl ?_ | refine Ops.boxR eF rfl rfl (by first | exact Want.no rfl | exact Want.tT rfl rfl rfl rfl | exact Want.fF rfl rfl rfl rfl) rfl rfl rfl rfl ?_ | refine Go.condT rfl ?_ | refine Go.condPt rfl (fun _ => ?_) (fun _ => ?_) | refine Go.skip ?_ | refine Go.retF rfl ?_ rfl
  · rfl
  · rfl
  rename_i c1 c2
  obtain ⟨h1, h2, h3⟩ := wide_out (l := body) (by rcases wideG_01 body with q | q <;> omega)
  have k8' := k8 nm av body (by omega)
  have k9' := k9 nm av body (by omega)
  have k10' := k10 body (by omega)
  have k11' := k11 (cntL body + 1) body false (by omega) (by omega)
  have k12' := fun (q : Int) (hq : 0 ≤ q ∧ q < body.length) => k12 body q av (by omega) h2 h3 (by omega) hq
  have k14' := fun (q : Int) (hq : 0 ≤ q ∧ q < body.length) => k14 body q av (by omega) h2 h3 (by omega) hq
  have k12x := k12e body (-1) (by omega)
  have k12y := k12e body body.length (by omega)
  unfold ruA at k8' k9'
  rw [clsA_eq] at k8' k9' k10' k11' k12x k12y
  simp only [clsA_eq] at k12' k14'
  have hl := callsL_len false body
  have hkind := callsL_kind false body
  have hal := alls_len (callsL false body)
  have hnl := nots_len (callsL false body)
  have hcp := clsP_len (callsL false body)
  generalize callsL false body = ps at *
  repeat' first | refine Go.seq ?_ | refine Go.region rfl ?_ | refine Ops.nil ?_ | refine Ops.val eF rfl rfl (by first | exact Want.no rfl | exact Want.tT rfl rfl rfl rfl | exact Want.fF rfl rfl rfl rfl) (by first | exact Hop.move rfl rfl | exact Hop.assign rfl rfl | exact Hop.neq rfl rfl rfl | exact Hop.faR eF rfl rfl rfl rfl rfl rfl rfl | exact Hop.ldR eF rfl rfl rfl rfl rfl | exact Hop.ldRG eF rfl rfl rfl rfl rfl | exact Hop.lenD eF rfl rfl rfl rfl rfl rfl rfl | exact Hop.extract rfl rfl rfl) ?_ | refine Ops.call eF rfl rfl (by first | exact Want.no rfl | exact Want.tT rfl rfl rfl rfl | exact Want.fF rfl rfl rfl rfl) rfl rfl rfl rfl (k8') rfl ?_ | refine Ops.call eF rfl rfl (by first | exact Want.no rfl | exact Want.tT rfl rfl rfl rfl | exact Want.fF rfl rfl rfl rfl) rfl rfl rfl rfl (k9') rfl ?_ | refine Ops.call eF rfl rfl (by first | exact Want.no rfl | exact Want.tT rfl rfl rfl rfl | exact Want.fF rfl rfl rfl rfl) rfl rfl rfl rfl (k10') rfl ?_ | refine Ops.call eF rfl rfl (by first | exact Want.no rfl | exact Want.tT rfl rfl rfl rfl | exact Want.fF rfl rfl rfl rfl) rfl rfl rfl rfl (k11') rfl ?_ | refine Go.condNt rfl (fun _ => ?_) (fun _ => ?_) | refine Go.block ?_ | refine Go.skip ?_ | refine Go.retF rfl ?_ rfl
  all_goals try (exfalso; omega)
  refine Go.loop (fun i : Nat => [(1, .rptr [sA nm, strsA av, dsl 5 encF body]), (3, strsA (VarsG (alls ps))), (4, strsA (VarsG (nots ps))), (5, strsA (VarsG (alls ps))), (6, strsA (VarsG (nots ps))), (7, dsl 5 encF (clsP ps)), (8, clA ps), (44, .int .i64 (clsP ps).length), (45, .int .i64 i)]) (fun _ => hS) (fun i => i ≤ ps.length) (fun i => ps.length - i) 0 (Nat.zero_le _) ⟨rfl, rfl, rfl, rfl, rfl, rfl, rfl, rfl, rfl, trivial⟩ rfl (fun i hi ih => ?_)
  by_cases c0 : (i : Int) < ((clsP ps).length : Int)
  · have hlt : i < ps.length := by omega
    have hlt1 : i < (clsP ps).length := by omega
    have hat := clsP_at ps i
    have hk4 := hkind _ (getD_mem hlt)
    repeat' first | refine Go.seq ?_ | refine Go.region rfl ?_ | refine Ops.nil ?_ | refine Ops.val eF rfl rfl (by first | exact Want.no rfl | exact Want.tT rfl rfl rfl rfl | exact Want.fF rfl rfl rfl rfl) (by first | exact Hop.move rfl rfl | exact Hop.assign rfl rfl | exact Hop.lss rfl rfl rfl) ?_ | refine Go.condTt rfl (by first | assumption | decide) ?_ | refine Go.block ?_ | refine Go.skip ?_
    refine Go.draw eF hm [] [0, 1, 2, 3, 4, 5, 6, 7, 8, 9, 10, 11, 12, 13, 14, 15, 16, 17, 18, 19, 20, 21, 22, 23, 24, 25, 26, 27, 28, 29, 30, 31, 32] dr4_0 ?_
    repeat' first | refine Dr.nil ?_ | refine Dr.pure rfl rfl rfl rfl (by first | exact Want.no rfl | exact Want.tT rfl rfl rfl rfl | exact Want.fF rfl rfl rfl rfl) (by first | exact Hop.move rfl rfl | exact Hop.pickT rfl rfl rfl | exact Hop.pickF rfl rfl rfl | exact Hop.neq rfl rfl rfl | exact Hop.neS rfl rfl rfl | exact Hop.faR eF rfl rfl rfl rfl rfl rfl rfl | exact Hop.idx eF rfl rfl rfl rfl rfl rfl rfl (fun _ => rfl) (by omega) | exact Hop.ldR eF rfl rfl rfl rfl rfl | exact Hop.lenD eF rfl rfl rfl rfl rfl rfl rfl) ?_ | refine Dr.light rfl rfl rfl rfl (by first | exact Want.no rfl | exact Want.tT rfl rfl rfl rfl | exact Want.fF rfl rfl rfl rfl) (by first | exact Hop.ldR eF rfl rfl rfl rfl rfl | exact Hop.lenD eF rfl rfl rfl rfl rfl rfl rfl) ?_ | refine Dr.skip rfl rfl rfl (by first | exact Want.fT rfl rfl rfl rfl | exact Want.tF rfl rfl rfl rfl | exact Want.und rfl rfl rfl rfl) ?_ | refine Dr.gN rfl rfl (fun _ => ?_) (fun _ => ?_)
    repeat' first | refine Go.seq ?_ | refine Go.region rfl ?_ | refine Ops.nil ?_ | refine Ops.val eF rfl rfl (by first | exact Want.no rfl | exact Want.tT rfl rfl rfl rfl | exact Want.fF rfl rfl rfl rfl) (by first | exact Hop.move rfl rfl | exact Hop.assign rfl rfl | exact Hop.add rfl rfl rfl (by omega)) ?_ | refine Go.condT rfl ?_ | refine Go.condNt rfl (fun _ => ?_) (fun _ => ?_) | refine Go.unblk ?_ | refine Go.skip ?_ | refine Go.retF rfl ?_ rfl
    all_goals try simp only [Int.toNat_natCast] at *
    all_goals try (rw [hat] at *)
    all_goals first
      | exact absurd rfl (by assumption)
      | exact absurd hk4 (by assumption)
      | exact Go.to (ih (i + 1) (by omega) (by omega)) ⟨rfl, rfl, rfl, rfl, rfl, rfl, rfl, rfl, rfl, trivial⟩
  · repeat' first | refine Go.seq ?_ | refine Go.region rfl ?_ | refine Ops.nil ?_ | refine Ops.val eF rfl rfl (by first | exact Want.no rfl | exact Want.tT rfl rfl rfl rfl | exact Want.fF rfl rfl rfl rfl) (by first | exact Hop.move rfl rfl | exact Hop.lss rfl rfl rfl | exact Hop.faR eF rfl rfl rfl rfl rfl rfl rfl | exact Hop.ldR eF rfl rfl rfl rfl rfl | exact Hop.lenD eF rfl rfl rfl rfl rfl rfl rfl) ?_ | refine Go.condFt rfl (by first | assumption | decide) ?_ | refine Go.block ?_ | refine Go.exit rfl ?_
    refine Go.loop (fun i : Nat => [(1, .rptr [sA nm, strsA av, dsl 5 encF body]), (3, strsA (VarsG (alls ps))), (4, strsA (VarsG (nots ps))), (5, strsA (VarsG (alls ps))), (6, strsA (VarsG (nots ps))), (84, .int .i64 body.length), (85, .int .i64 i)]) (fun _ => hS) (fun i => i ≤ body.length) (fun i => body.length - i) 0 (Nat.zero_le _) ⟨rfl, rfl, rfl, rfl, rfl, rfl, rfl, trivial⟩ rfl (fun i hi ih => ?_)
    by_cases c0 : (i : Int) < (body.length : Int)
    · have hlt : i < body.length := by omega
      repeat' first | refine Go.seq ?_ | refine Go.region rfl ?_ | refine Ops.nil ?_ | refine Ops.val eF rfl rfl (by first | exact Want.no rfl | exact Want.tT rfl rfl rfl rfl | exact Want.fF rfl rfl rfl rfl) (by first | exact Hop.move rfl rfl | exact Hop.assign rfl rfl | exact Hop.not rfl rfl | exact Hop.lss rfl rfl rfl | exact Hop.add rfl rfl rfl (by omega) | exact Hop.faR eF rfl rfl rfl rfl rfl rfl rfl | exact Hop.ldR eF rfl rfl rfl rfl rfl) ?_ | refine Ops.call eF rfl rfl (by first | exact Want.no rfl | exact Want.tT rfl rfl rfl rfl | exact Want.fF rfl rfl rfl rfl) rfl rfl rfl rfl (k12' i (by omega)) rfl ?_ | refine Ops.call eF rfl rfl (by first | exact Want.no rfl | exact Want.tT rfl rfl rfl rfl | exact Want.fF rfl rfl rfl rfl) rfl rfl rfl rfl (k14' i (by omega)) rfl ?_ | refine Ops.call eF rfl rfl (by first | exact Want.no rfl | exact Want.tT rfl rfl rfl rfl | exact Want.fF rfl rfl rfl rfl) rfl rfl rfl rfl (k13 (shG body i av) (shG body i av) (shG_len body i av (by omega))) rfl ?_ | refine Go.condTt rfl (by first | assumption | decide) ?_ | refine Go.condNt rfl (fun _ => ?_) (fun _ => ?_) | refine Go.block ?_ | refine Go.unblk ?_ | refine Go.skip ?_ | refine Go.retF rfl ?_ rfl
      all_goals try (exact absurd rfl (by assumption))
      all_goals exact Go.to (ih (i + 1) (by omega) (by omega)) ⟨rfl, rfl, rfl, rfl, rfl, rfl, rfl, trivial⟩
    · have ei : i = body.length := by omega
      repeat' first | refine Go.seq ?_ | refine Go.region rfl ?_ | refine Ops.nil ?_ | refine Ops.val eF rfl rfl (by first | exact Want.no rfl | exact Want.tT rfl rfl rfl rfl | exact Want.fF rfl rfl rfl rfl) (by first | exact Hop.move rfl rfl | exact Hop.assign rfl rfl | exact Hop.pickT rfl rfl rfl | exact Hop.pickF rfl rfl rfl | exact Hop.lss rfl rfl rfl | exact Hop.eql rfl rfl rfl | exact Hop.faR eF rfl rfl rfl rfl rfl rfl rfl | exact Hop.ldR eF rfl rfl rfl rfl rfl | exact Hop.lenD eF rfl rfl rfl rfl rfl rfl rfl) ?_ | refine Ops.skip rfl rfl (by first | exact Want.fT rfl rfl rfl rfl | exact Want.tF rfl rfl rfl rfl | exact Want.und rfl rfl rfl rfl) ?_ | refine Ops.gT rfl rfl (by first | assumption | decide) ?_ | refine Ops.gP rfl rfl (fun _ => ?_) (fun _ => ?_) | refine Ops.call eF rfl rfl (by first | exact Want.no rfl | exact Want.tT rfl rfl rfl rfl | exact Want.fF rfl rfl rfl rfl) rfl rfl rfl rfl (k12x) rfl ?_ | refine Ops.call eF rfl rfl (by first | exact Want.no rfl | exact Want.tT rfl rfl rfl rfl | exact Want.fF rfl rfl rfl rfl) rfl rfl rfl rfl (k12y) rfl ?_ | refine Ops.call eF rfl rfl (by first | exact Want.no rfl | exact Want.tT rfl rfl rfl rfl | exact Want.fF rfl rfl rfl rfl) rfl rfl rfl rfl (k13 (VarsG (alls ps)) (VarsG (alls ps)) (Nat.le_trans (VarsG_len _) (by omega))) rfl ?_ | refine Ops.call eF rfl rfl (by first | exact Want.no rfl | exact Want.tT rfl rfl rfl rfl | exact Want.fF rfl rfl rfl rfl) rfl rfl rfl rfl (k13 (VarsG (nots ps)) (VarsG (nots ps)) (Nat.le_trans (VarsG_len _) (by omega))) rfl ?_ | refine Go.condFt rfl (by first | assumption | decide) ?_ | refine Go.exit rfl ?_ | refine Go.retF rfl ?_ rfl
      all_goals first
        | exact congrArg AV.bool (bd_of (by rfl))
        | exact absurd rfl (by assumption)
        | (exfalso; omega)
end Go.Px.Fh
end
/- PxVl -/
section
set_option linter.unusedVariables false
namespace Go.Px
open Go.Deep Go.ChangeShapes Go.WideShapes
theorem read_sliceB {H : Type} {enc : TypeId × Value → H} {P : Program} {W : World} {α : Type} [Inhabited α] {en : α → List AV} {z : Nat} (hz : 0 < z) (hen : ∀ a, (en a).length = z) {t e : TypeId} (ht : P.underlying t = some (.slice e)) (hc : P.cellsOf e = z) {Q : α → DataW H → Prop} {B : DataW H → Prop}
    (hel : ∀ n cs y, B y.1 → DataW.trod enc P W 0 (fun _ => true) true n e cs = some y → ∃ x, VRs (fzm (held0 W)) (en x) cs ∧ Q x y.1)
    {n : Nat} {v : Value} {y : DataW H × List MemPlace} (hB : ∀ els sp, y.1 = .slice els sp → ∀ d ∈ els, B d) (h : DataW.trod enc P W 0 (fun _ => true) true n t [v] = some y) :
    ∃ l : List α, VR (fzm (held0 W)) (dsl z en l) v ∧ ((l = [] ∧ y.1 = .nil) ∨ ∃ els sp, y.1 = .slice els sp ∧ els.length = l.length ∧ ∀ i, i < l.length → ∃ d, els[i]? = some d ∧ Q (l.getD i default) d) := by
  rcases open_slice ht h with ⟨hv, rfl⟩ | ⟨a, len, cap, m, k, D, Pl, hv, hb, hl, hm, hmm, rfl, hx⟩
  · have hv : v = .slice none 0 0 := by simpa using hv
    subst hv
    exact ⟨[], by simp [dsl, VR], .inl ⟨rfl, rfl⟩⟩
  · have hv : v = .slice (some a) len cap := by simpa using hv
    subst hv
    rw [hc] at hx
    have hlm : len ≤ m := by rw [hmm]; split <;> omega
    obtain ⟨f, hf⟩ := choose_lt (α := α) (n := len) (p := fun i x => ∃ cs, W.cells? 0 (a.add (i * z)) z = some cs ∧ VRs (fzm (held0 W)) (en x) cs ∧ Q x (D i)) (fun i hi => by
      obtain ⟨cs', h1, h2⟩ := hx i (by omega)
      obtain ⟨x, x1, x2⟩ := hel _ _ _ (hB _ _ rfl _ (List.mem_map.2 ⟨i, List.mem_range.2 hi, rfl⟩)) h2
      exact ⟨x, cs', h1, x1, x2⟩)
    have hlen : ((List.range len).map f).length = len := by simp
    refine ⟨(List.range len).map f, ?_, .inr ⟨_, _, rfl, by simp, fun i hi => ?_⟩⟩
    · unfold dsl
      rw [hlen]
      simp only [VR]
      refine ⟨by rw [flat_len hen, hlen], ?_⟩
      by_cases h0 : len = 0
      · exact .inl ⟨h0, .inr ⟨a, cap, by rw [h0]⟩⟩
      · right
        obtain ⟨B, o, spot⟩ := a
        have hspot : spot = none := by
          obtain ⟨cs, c1, c2, _⟩ := hf 0 (by omega)
          obtain ⟨_, q2, q3⟩ := World.cells?_some c1
          have q4 := q3 0 hz
          rw [List.getElem?_eq_getElem (by omega)] at q4
          simpa [Addr.add] using World.cell?_spot q4
        subst hspot
        refine ⟨B, o, cap, ((held0 W B).drop o).take (len * z), rfl, hl, ?_, fun j x hj => ?_⟩
        · have key : ∀ k, k ≤ len → VRs (fzm (held0 W)) (((List.range k).map f).flatMap en) (((held0 W B).drop o).take (k * z)) := by
            intro k
            induction k with
            | zero => intro _; simp [VRs]
            | succ k ih =>
              intro hk
              have h1 := ih (by omega)
              obtain ⟨cs, c1, c2, _⟩ := hf k (by omega)
              obtain ⟨_, q2, q3⟩ := World.cells?_some c1
              have e : ((held0 W B).drop o).take ((k + 1) * z) = ((held0 W B).drop o).take (k * z) ++ cs := by
                rw [Nat.succ_mul, List.take_add]
                congr 1
                apply List.ext_getElem?
                intro r
                rw [List.drop_drop, List.getElem?_take]
                by_cases hr : r < z
                · rw [if_pos hr, List.getElem?_drop]
                  have q4 := q3 r hr
                  rw [List.getElem?_eq_getElem (show r < cs.length by omega)] at q4 ⊢
                  rw [add_plain, add_plain] at q4
                  have := held0_at.2 q4
                  rw [← this]
                · rw [if_neg hr, List.getElem?_eq_none (by omega)]
              rw [List.range_succ, List.map_append, List.flatMap_append, e]
              refine h1.append ?_
              simpa using c2
          exact key len (Nat.le_refl _)
        · rw [List.getElem?_take] at hj
          split at hj
          · rw [List.getElem?_drop] at hj
            exact hj
          · cases hj
    · have hi' : i < len := by omega
      obtain ⟨cs, _, _, q⟩ := hf i hi'
      refine ⟨D i, by simp [hi'], ?_⟩
      rw [List.getD_eq_getElem?_getD]
      simpa [hi'] using q
end Go.Px
end
