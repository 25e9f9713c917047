/-
  AxC: what an evaluator's value and memory say of the model's: 'VR', 'HR'; the trees' laws.
-/
import Derived.Test.YtaopfnhkfedemaaGreatDoorAxB
set_option linter.unusedVariables false
set_option linter.unusedSimpArgs false
namespace Go.Ax

/-! ## trees -/
section trees
variable {α : Type} (d : α)
@[simp] theorem bget_leaf (i : Nat) : BT.get d .leaf i = d := rfl
theorem brec {β : Type} (a b : β) (c : Bool) : Bool.rec (motive := fun _ => β) a b c = if c = true then b else a := by cases c <;> rfl
theorem beq0 (i : Nat) : (Nat.beq i 0 = true) = (i = 0) := by simp
theorem bget_node (v : α) (l r : BT α) (i : Nat) : BT.get d (.node v l r) i = if i = 0 then v else if i % 2 = 0 then r.get d (i / 2 - 1) else l.get d (i / 2) := by
  rw [show BT.get d (.node v l r) i = (Bool.rec (motive := fun _ => α) (Bool.rec (motive := fun _ => α) (l.get d (i / 2)) (r.get d (i / 2 - 1)) (Nat.beq (i % 2) 0)) v (Nat.beq i 0)) from rfl]
  rw [brec, brec]; simp only [beq0]
theorem bsetF_leaf (x : α) (f i : Nat) : BT.setF d x (f + 1) .leaf i = if i = 0 then .node x .leaf .leaf else if i % 2 = 0 then .node d .leaf (BT.setF d x f .leaf (i / 2 - 1)) else .node d (BT.setF d x f .leaf (i / 2)) .leaf := by
  rw [show BT.setF d x (f + 1) .leaf i = (Bool.rec (motive := fun _ => BT α) (Bool.rec (motive := fun _ => BT α) (.node d (BT.setF d x f .leaf (i / 2)) .leaf) (.node d .leaf (BT.setF d x f .leaf (i / 2 - 1))) (Nat.beq (i % 2) 0)) (.node x .leaf .leaf) (Nat.beq i 0)) from rfl]
  rw [brec, brec]; simp only [beq0]
theorem bsetF_node (x v : α) (l r : BT α) (f i : Nat) : BT.setF d x (f + 1) (.node v l r) i = if i = 0 then .node x l r else if i % 2 = 0 then .node v l (BT.setF d x f r (i / 2 - 1)) else .node v (BT.setF d x f l (i / 2)) r := by
  rw [show BT.setF d x (f + 1) (.node v l r) i = (Bool.rec (motive := fun _ => BT α) (Bool.rec (motive := fun _ => BT α) (.node v (BT.setF d x f l (i / 2)) r) (.node v l (BT.setF d x f r (i / 2 - 1))) (Nat.beq (i % 2) 0)) (.node x l r) (Nat.beq i 0)) from rfl]
  rw [brec, brec]; simp only [beq0]

theorem bget_setF (x : α) : ∀ (f : Nat) (t : BT α) (i j : Nat), i < f → (BT.setF d x f t i).get d j = if j = i then x else t.get d j := by
  intro f
  induction f with
  | zero => intro t i j h; omega
  | succ f ih =>
    intro t i j h
    cases t with
    | leaf =>
      rw [bsetF_leaf]
      by_cases hi : i = 0
      · subst hi; rw [if_pos rfl, bget_node]; by_cases hj : j = 0 <;> simp [hj]
      · rw [if_neg hi]
        by_cases h2 : i % 2 = 0
        · rw [if_pos h2, bget_node]
          by_cases hj : j = 0
          · subst hj; simp; intro e; omega
          · rw [if_neg hj]
            by_cases hj2 : j % 2 = 0
            · rw [if_pos hj2, ih _ _ _ (by omega)]
              by_cases e : j = i
              · subst e; simp
              · rw [if_neg e, if_neg (by omega)]; rfl
            · rw [if_neg hj2, if_neg (by intro e; subst e; omega)]; rfl
        · rw [if_neg h2, bget_node]
          by_cases hj : j = 0
          · subst hj; simp; intro e; omega
          · rw [if_neg hj]
            by_cases hj2 : j % 2 = 0
            · rw [if_pos hj2, if_neg (by intro e; subst e; omega)]; rfl
            · rw [if_neg hj2, ih _ _ _ (by omega)]
              by_cases e : j = i
              · subst e; simp
              · rw [if_neg e, if_neg (by omega)]; rfl
    | node v l r =>
      rw [bsetF_node, bget_node]
      by_cases hi : i = 0
      · subst hi; rw [if_pos rfl, bget_node]; by_cases hj : j = 0 <;> simp [hj]
      · rw [if_neg hi]
        by_cases h2 : i % 2 = 0
        · rw [if_pos h2, bget_node]
          by_cases hj : j = 0
          · subst hj; simp; intro e; omega
          · rw [if_neg hj]
            by_cases hj2 : j % 2 = 0
            · rw [if_pos hj2, ih _ _ _ (by omega)]
              by_cases e : j = i
              · subst e; simp
              · rw [if_neg e, if_neg (by omega)]; simp [hj, hj2]
            · rw [if_neg hj2, if_neg (by intro e; subst e; omega)]; simp [hj, hj2]
        · rw [if_neg h2, bget_node]
          by_cases hj : j = 0
          · subst hj; simp; intro e; omega
          · rw [if_neg hj]
            by_cases hj2 : j % 2 = 0
            · rw [if_pos hj2, if_neg (by intro e; subst e; omega)]; simp [hj, hj2]
            · rw [if_neg hj2, ih _ _ _ (by omega)]
              by_cases e : j = i
              · subst e; simp
              · rw [if_neg e, if_neg (by omega)]; simp [hj, hj2]

theorem bget_set (t : BT α) (i j : Nat) (x : α) : (BT.set d t i x).get d j = if j = i then x else t.get d j := bget_setF d x (i + 1) t i j (by omega)
theorem bget_set_same (t : BT α) (i : Nat) (x : α) : (BT.set d t i x).get d i = x := by rw [bget_set, if_pos rfl]
theorem bget_set_ne (t : BT α) {i j : Nat} (h : j ≠ i) (x : α) : (BT.set d t i x).get d j = t.get d j := by rw [bget_set, if_neg h]


theorem sw_sel (β : Type) (k j : Nat) (hk : k < 8) (hj : j < 8) (F : β → β) (n : N8 β) : (sw j).sel β ((sw k).upd β F n) = if j = k then F ((sw k).sel β n) else (sw j).sel β n := by
  have hk' : k = 0 ∨ k = 1 ∨ k = 2 ∨ k = 3 ∨ k = 4 ∨ k = 5 ∨ k = 6 ∨ k = 7 := by omega
  have hj' : j = 0 ∨ j = 1 ∨ j = 2 ∨ j = 3 ∨ j = 4 ∨ j = 5 ∨ j = 6 ∨ j = 7 := by omega
  rcases hk' with rfl | rfl | rfl | rfl | rfl | rfl | rfl | rfl <;> rcases hj' with rfl | rfl | rfl | rfl | rfl | rfl | rfl | rfl <;> rfl
theorem sw_rep (β : Type) (j : Nat) (x : β) : (sw j).sel β (.rep x) = x := by unfold sw; split <;> rfl
theorem ble_iff (a b : Nat) : Nat.ble a b = true ↔ a ≤ b := ⟨Nat.le_of_ble_eq_true, Nat.ble_eq_true_of_le⟩
theorem ble_not {a b : Nat} (h : ¬ a ≤ b) : Nat.ble a b = false := by
  cases e : Nat.ble a b with
  | false => rfl
  | true => exact absurd ((ble_iff a b).1 e) h
theorem g2_lt {i : Nat} (h : i < 64) : g2 α d i = ⟨fun n _ => (sw (i % 8)).sel α ((sw (i / 8)).sel (N8 α) n), fun x n o => .t2 ((sw (i / 8)).upd (N8 α) ((sw (i % 8)).upd α (fun _ => x)) n) o⟩ := by
  unfold g2; rw [ble_not (by omega)]; rfl
theorem g2_ge {i : Nat} (h : 64 ≤ i) : g2 α d i = ⟨fun _ o => BT.get d o i, fun x n o => .t2 n (BT.set d o i x)⟩ := by
  unfold g2; rw [(ble_iff 64 i).2 h]
theorem g4_lt {i : Nat} (h : i < 4096) : g4 α d i = ⟨fun n _ => (sw (i % 8)).sel α ((sw (i / 8 % 8)).sel (N8 α) ((sw (i / 64 % 8)).sel (N8 (N8 α)) ((sw (i / 512)).sel (N8 (N8 (N8 α))) n))),
     fun x n o => .t4 ((sw (i / 512)).upd (N8 (N8 (N8 α))) ((sw (i / 64 % 8)).upd (N8 (N8 α)) ((sw (i / 8 % 8)).upd (N8 α) ((sw (i % 8)).upd α (fun _ => x)))) n) o⟩ := by
  unfold g4; rw [ble_not (by omega)]; rfl
theorem g4_ge {i : Nat} (h : 4096 ≤ i) : g4 α d i = ⟨fun _ o => BT.get d o i, fun x n o => .t4 n (BT.set d o i x)⟩ := by
  unfold g4; rw [(ble_iff 4096 i).2 h]

@[simp] theorem get_leaf (i : Nat) : T.get d .leaf i = d := bget_leaf d i
@[simp] theorem get_tab2 (i : Nat) : T.get d (.tab2 d) i = d := by
  show (g2 α d i).get (.rep (.rep d)) .leaf = d
  by_cases h : i < 64
  · rw [g2_lt d h]; simp only [sw_rep]
  · rw [g2_ge d (by omega)]; exact bget_leaf d i
@[simp] theorem get_tab4 (i : Nat) : T.get d (.tab4 d) i = d := by
  show (g4 α d i).get (.rep (.rep (.rep (.rep d)))) .leaf = d
  by_cases h : i < 4096
  · rw [g4_lt d h]; simp only [sw_rep]
  · rw [g4_ge d (by omega)]; exact bget_leaf d i
@[simp] theorem get_env0 (n i : Nat) : T.get d (env0 d n) i = d := by
  unfold env0
  cases Nat.ble n 64
  · exact get_tab4 d i
  · exact get_tab2 d i

theorem get_set (t : T α) (i j : Nat) (x : α) : (t.set d i x).get d j = if j = i then x else t.get d j := by
  cases t with
  | bin b => exact bget_set d b i j x
  | t2 n o =>
    show T.get d ((g2 α d i).set x n o) j = if j = i then x else (g2 α d j).get n o
    by_cases hi : i < 64
    · rw [g2_lt d hi]
      show (g2 α d j).get ((sw (i / 8)).upd (N8 α) ((sw (i % 8)).upd α (fun _ => x)) n) o = _
      by_cases hj : j < 64
      · rw [g2_lt d hj]
        show (sw (j % 8)).sel α ((sw (j / 8)).sel (N8 α) ((sw (i / 8)).upd (N8 α) ((sw (i % 8)).upd α (fun _ => x)) n)) = _
        rw [sw_sel _ _ _ (by omega) (by omega)]
        by_cases h1 : j / 8 = i / 8
        · rw [if_pos h1, sw_sel _ _ _ (by omega) (by omega)]
          by_cases h2 : j % 8 = i % 8
          · rw [if_pos h2, if_pos (by omega)]
          · rw [if_neg h2, if_neg (by omega), h1]
        · rw [if_neg h1, if_neg (by intro e; exact h1 (by rw [e]))]
      · rw [g2_ge d (by omega), if_neg (by omega)]
    · rw [g2_ge d (by omega)]
      show (g2 α d j).get n (BT.set d o i x) = _
      by_cases hj : j < 64
      · rw [g2_lt d hj, if_neg (by omega)]
      · rw [g2_ge d (by omega)]; exact bget_set d o i j x
  | t4 n o =>
    show T.get d ((g4 α d i).set x n o) j = if j = i then x else (g4 α d j).get n o
    by_cases hi : i < 4096
    · rw [g4_lt d hi]
      show (g4 α d j).get ((sw (i / 512)).upd (N8 (N8 (N8 α))) ((sw (i / 64 % 8)).upd (N8 (N8 α)) ((sw (i / 8 % 8)).upd (N8 α) ((sw (i % 8)).upd α (fun _ => x)))) n) o = _
      by_cases hj : j < 4096
      · rw [g4_lt d hj]
        show (sw (j % 8)).sel α ((sw (j / 8 % 8)).sel (N8 α) ((sw (j / 64 % 8)).sel (N8 (N8 α)) ((sw (j / 512)).sel (N8 (N8 (N8 α))) ((sw (i / 512)).upd (N8 (N8 (N8 α))) ((sw (i / 64 % 8)).upd (N8 (N8 α)) ((sw (i / 8 % 8)).upd (N8 α) ((sw (i % 8)).upd α (fun _ => x)))) n)))) = _
        rw [sw_sel _ _ _ (by omega) (by omega)]
        by_cases h0 : j / 512 = i / 512
        · rw [if_pos h0, sw_sel _ _ _ (by omega) (by omega)]
          by_cases h1 : j / 64 % 8 = i / 64 % 8
          · rw [if_pos h1, sw_sel _ _ _ (by omega) (by omega)]
            by_cases h2 : j / 8 % 8 = i / 8 % 8
            · rw [if_pos h2, sw_sel _ _ _ (by omega) (by omega)]
              by_cases h3 : j % 8 = i % 8
              · rw [if_pos h3, if_pos (by omega)]
              · rw [if_neg h3, if_neg (by intro e; exact h3 (by rw [e])), h0, h1, h2]
            · rw [if_neg h2, if_neg (by intro e; exact h2 (by rw [e])), h0, h1]
          · rw [if_neg h1, if_neg (by intro e; exact h1 (by rw [e])), h0]
        · rw [if_neg h0, if_neg (by intro e; exact h0 (by rw [e]))]
      · rw [g4_ge d (by omega), if_neg (by omega)]
    · rw [g4_ge d (by omega)]
      show (g4 α d j).get n (BT.set d o i x) = _
      by_cases hj : j < 4096
      · rw [g4_lt d hj, if_neg (by omega)]
      · rw [g4_ge d (by omega)]; exact bget_set d o i j x
@[simp] theorem get_set_same (t : T α) (i : Nat) (x : α) : (t.set d i x).get d i = x := by rw [get_set, if_pos rfl]
theorem get_set_ne (t : T α) {i j : Nat} (h : j ≠ i) (x : α) : (t.set d i x).get d j = t.get d j := by rw [get_set, if_neg h]

theorem put_nil (t : T α) (i : Nat) : T.put d [] t i = t := rfl
theorem put_cons (x : α) (l : List α) (t : T α) (i : Nat) : T.put d (x :: l) t i = T.put d l (t.set d i x) (i + 1) := rfl
theorem get_put : ∀ (l : List α) (t : T α) (i j : Nat), (T.put d l t i).get d j = if i ≤ j then (l[j - i]?).getD (t.get d j) else t.get d j
  | [], t, i, j => by simp [put_nil]
  | x :: l, t, i, j => by
    rw [put_cons, get_put l, get_set]
    by_cases h : i + 1 ≤ j
    · have e1 : ¬ j = i := by omega
      have e2 : i ≤ j := by omega
      have e3 : j - i = (j - (i + 1)) + 1 := by omega
      rw [if_pos h, if_pos e2, if_neg e1, e3, List.getElem?_cons_succ]
    · rw [if_neg h]
      by_cases e : j = i
      · subst e; simp
      · rw [if_neg e, if_neg (by omega)]
end trees

theorem nth1_eq {α : Type} (l : List α) : ∀ i, nth1 l i = l[i]? := by
  induction l with
  | nil => intro i; rfl
  | cons x l ih =>
    intro i
    rw [show nth1 (x :: l) i = (Bool.rec (motive := fun _ => Option α) (nth1 l (i - 1)) (some x) (Nat.beq i 0)) from rfl, brec]
    simp only [beq0]
    cases i with
    | zero => rfl
    | succ i => rw [if_neg (by omega)]; exact ih i
theorem tl_eq {α : Type} (l : List α) : tl l = l.drop 1 := by cases l <;> rfl
theorem tl8_eq {α : Type} (l : List α) : tl8 l = l.drop 8 := by unfold tl8; simp only [tl_eq, List.drop_drop]
theorem drops_eq {α : Type} (l : List α) : ∀ k, drops l k = l.drop (8 * k)
  | 0 => rfl
  | k + 1 => by
    rw [show drops l (k + 1) = tl8 (drops l k) from rfl, drops_eq l k, tl8_eq, List.drop_drop]
    congr 1
theorem nth_eq {α : Type} (l : List α) (i : Nat) : nth l i = l[i]? := by
  unfold nth
  rw [nth1_eq, drops_eq, List.getElem?_drop, show Nat.div i 8 = i / 8 from rfl, show Nat.mod i 8 = i % 8 from rfl]
  congr 1
  omega

theorem get_ofL {α : Type} (l : List α) (i : Nat) : (ofL l).get none i = l[i]? := by
  unfold ofL
  rw [get_put]
  simp
  cases l[i]? <;> rfl

/-! ## values -/
abbrev Map := Nat → Option (Nat × Nat)
def bs (l : List Nat) : ByteArray := ⟨(l.map UInt8.ofNat).toArray⟩

mutual
/-- AN EVALUATOR's VALUE READ AS THE MODEL's: 'ρ' tells of each number the block, and how many cells it has. -/
def VR (ρ : Map) : AV → Value → Prop
  | .bad, _ => True
  | .bool b, v => v = .bool b
  | .int k n, v => v = .int k n
  | .str l, v => v = .string (bs l)
  | .nilptr, v => v = .pointer none
  | .ptr id off, v => ∃ B N, ρ id = some (B, N) ∧ v = .pointer (some ⟨B, off, none⟩)
  | .nilsl, v => v = .slice none 0 0
  | .sl id off len cap z, v => ∃ B N C, ρ id = some (B, N) ∧ v = .slice (some ⟨B, off, none⟩) len C ∧ len ≤ C ∧ (∀ k, cap = some k → C = k) ∧ (cap = none → off + C * z = N)
  | .esl id, v => ∃ B N o C, ρ id = some (B, N) ∧ v = .slice (some ⟨B, o, none⟩) 0 C
  | .nilmp, v => v = .map none
  | .mp id, v => ∃ B N, ρ id = some (B, N) ∧ v = .map (some B)
  | .nilfn, v => v = .nilFunc
  | .fn f first cap, v => ∃ f' F C, FR ρ f f' ∧ VRs ρ first F ∧ VRs ρ cap C ∧ v = .func f' F.toArray C.toArray
  | .nilifc, v => v = .nilIface
  | .ifc t a, v => ∃ x, VR ρ a x ∧ v = .iface t x
  | .agg l, v => ∃ L, VRs ρ l L ∧ v = .agg L.toArray
  | .tup l, v => ∃ L, VRs ρ l L ∧ v = .tuple L.toArray
  | .gptr g off, v => v = .pointer (some ⟨g, off, none⟩)
  | .anyb, v => ∃ b, v = .bool b
  | .big n, v => ∃ m : Int, (n : Int) ≤ m ∧ v = .int .i64 m
  | .low n, v => ∃ m : Int, m ≤ (n : Int) ∧ v = .int .i64 m
  | .anyi, v => ∃ m : Int, v = .int .i64 m
def VRs (ρ : Map) : List AV → List Value → Prop
  | [], L => L = []
  | a :: l, L => ∃ x r, VR ρ a x ∧ VRs ρ l r ∧ L = x :: r
/-- a function: a loop's round by the loop's block -/
def FR (ρ : Map) : Fn → Fn → Prop
  | .yield l, f => ∃ B N, ρ l = some (B, N) ∧ f = .yield B
  | g, f => f = g
end

def Sub (ρ σ : Map) : Prop := ∀ i p, ρ i = some p → σ i = some p
theorem Sub.refl (ρ : Map) : Sub ρ ρ := fun _ _ h => h
theorem Sub.trans {ρ σ τ : Map} (h : Sub ρ σ) (k : Sub σ τ) : Sub ρ τ := fun i p e => k i p (h i p e)

theorem FR.mono {ρ σ : Map} (h : Sub ρ σ) {f g : Fn} (k : FR ρ f g) : FR σ f g := by
  cases f <;> simp only [FR] at *
  all_goals first | exact k | (obtain ⟨B, N, e, r⟩ := k; exact ⟨B, N, h _ _ e, r⟩)

mutual
theorem VR.mono {ρ σ : Map} (h : Sub ρ σ) : ∀ (a : AV) {v : Value}, VR ρ a v → VR σ a v
  | .bad, _, _ => by simp [VR]
  | .bool b, v, k => by simpa [VR] using k
  | .int a b, v, k => by simpa [VR] using k
  | .str l, v, k => by simpa [VR] using k
  | .nilptr, v, k => by simpa [VR] using k
  | .ptr id off, v, k => by
    simp only [VR] at *; obtain ⟨B, N, e, r⟩ := k; exact ⟨B, N, h _ _ e, r⟩
  | .nilsl, v, k => by simpa [VR] using k
  | .sl id off len cap z, v, k => by
    simp only [VR] at *; obtain ⟨B, N, C, e, r⟩ := k; exact ⟨B, N, C, h _ _ e, r⟩
  | .esl id, v, k => by
    simp only [VR] at *; obtain ⟨B, N, o, C, e, r⟩ := k; exact ⟨B, N, o, C, h _ _ e, r⟩
  | .nilmp, v, k => by simpa [VR] using k
  | .mp id, v, k => by
    simp only [VR] at *; obtain ⟨B, N, e, r⟩ := k; exact ⟨B, N, h _ _ e, r⟩
  | .nilfn, v, k => by simpa [VR] using k
  | .fn f first cap, v, k => by
    simp only [VR] at *; obtain ⟨f', F, C, e1, e2, e3, r⟩ := k
    exact ⟨f', F, C, e1.mono h, VRs.mono h first e2, VRs.mono h cap e3, r⟩
  | .nilifc, v, k => by simpa [VR] using k
  | .ifc t a, v, k => by
    simp only [VR] at *; obtain ⟨x, e, r⟩ := k; exact ⟨x, VR.mono h a e, r⟩
  | .agg l, v, k => by
    simp only [VR] at *; obtain ⟨x, e, r⟩ := k; exact ⟨x, VRs.mono h l e, r⟩
  | .tup l, v, k => by
    simp only [VR] at *; obtain ⟨x, e, r⟩ := k; exact ⟨x, VRs.mono h l e, r⟩
  | .gptr g off, v, k => by simp only [VR] at *; exact k
  | .anyb, v, k => by simp only [VR] at *; exact k
  | .big n, v, k => by simp only [VR] at *; exact k
  | .low n, v, k => by simp only [VR] at *; exact k
  | .anyi, v, k => by simp only [VR] at *; exact k
theorem VRs.mono {ρ σ : Map} (h : Sub ρ σ) : ∀ (l : List AV) {L : List Value}, VRs ρ l L → VRs σ l L
  | [], L, k => by simpa [VRs] using k
  | a :: l, L, k => by
    simp only [VRs] at *; obtain ⟨x, r, e, e2, q⟩ := k; exact ⟨x, r, VR.mono h a e, VRs.mono h l e2, q⟩
end

theorem VRs.iff {ρ : Map} : ∀ {l : List AV} {L : List Value}, VRs ρ l L ↔ l.length = L.length ∧ ∀ (i : Nat) (a : AV) (v : Value), l[i]? = some a → L[i]? = some v → VR ρ a v
  | [], L => by
    simp only [VRs]
    constructor
    · rintro rfl; exact ⟨rfl, fun i a v h => by simp at h⟩
    · rintro ⟨h, _⟩; exact List.length_eq_zero_iff.1 h.symm
  | a :: l, L => by
    simp only [VRs]
    constructor
    · rintro ⟨x, r, e, e2, rfl⟩
      obtain ⟨h1, h2⟩ := VRs.iff.1 e2
      refine ⟨by simp [h1], fun i b v hb hv => ?_⟩
      cases i with
      | zero => simp at hb hv; subst hb; subst hv; exact e
      | succ i => simp at hb hv; exact h2 i b v hb hv
    · rintro ⟨h1, h2⟩
      cases L with
      | nil => simp at h1
      | cons x r =>
        exact ⟨x, r, h2 0 a x rfl rfl, VRs.iff.2 ⟨by simpa using h1, fun i b v hb hv => h2 (i + 1) b v (by simpa using hb) (by simpa using hv)⟩, rfl⟩

theorem VRs.length {ρ : Map} {l : List AV} {L : List Value} (h : VRs ρ l L) : l.length = L.length := (VRs.iff.1 h).1
theorem VRs.at {ρ : Map} {l : List AV} {L : List Value} (h : VRs ρ l L) {i : Nat} {a : AV} (ha : l[i]? = some a) : ∃ v, L[i]? = some v ∧ VR ρ a v := by
  obtain ⟨h1, h2⟩ := VRs.iff.1 h
  have hi : i < L.length := by rw [← h1]; exact (List.getElem?_eq_some_iff.1 ha).1
  exact ⟨L[i], List.getElem?_eq_getElem hi, h2 i a _ ha (List.getElem?_eq_getElem hi)⟩
theorem VRs.append {ρ : Map} {l l' : List AV} {L L' : List Value} (h : VRs ρ l L) (k : VRs ρ l' L') : VRs ρ (l ++ l') (L ++ L') := by
  induction l generalizing L with
  | nil => simp only [VRs] at h; subst h; exact k
  | cons a l ih =>
    simp only [VRs] at h; obtain ⟨x, r, e, e2, rfl⟩ := h
    simp only [List.cons_append, VRs]
    exact ⟨x, _, e, ih e2, rfl⟩
theorem VRs.take {ρ : Map} {l : List AV} {L : List Value} (h : VRs ρ l L) (n : Nat) : VRs ρ (l.take n) (L.take n) := by
  obtain ⟨h1, h2⟩ := VRs.iff.1 h
  refine VRs.iff.2 ⟨by simp [h1], fun i a v ha hv => ?_⟩
  rw [List.getElem?_take] at ha hv
  split at ha
  · simp [*] at hv; exact h2 i a v ha hv
  · cases ha
theorem VRs.drop {ρ : Map} {l : List AV} {L : List Value} (h : VRs ρ l L) (n : Nat) : VRs ρ (l.drop n) (L.drop n) := by
  obtain ⟨h1, h2⟩ := VRs.iff.1 h
  refine VRs.iff.2 ⟨by simp [h1], fun i a v ha hv => ?_⟩
  rw [List.getElem?_drop] at ha hv
  exact h2 _ a v ha hv
theorem VRs.set {ρ : Map} {l : List AV} {L : List Value} (h : VRs ρ l L) (n : Nat) {a : AV} {v : Value} (hv : VR ρ a v) : VRs ρ (l.set n a) (L.set n v) := by
  obtain ⟨h1, h2⟩ := VRs.iff.1 h
  refine VRs.iff.2 ⟨by simp [h1], fun i b u hb hu => ?_⟩
  rw [List.getElem?_set] at hb hu
  by_cases e : n = i
  · subst e
    rw [if_pos rfl] at hb hu
    split at hb
    · split at hu
      · cases hb; cases hu; exact hv
      · cases hu
    · cases hb
  · rw [if_neg e] at hb hu
    exact h2 i b u hb hu
theorem VRs.map {ρ : Map} {α : Type} (f : α → AV) (g : α → Value) (l : List α) (h : ∀ x ∈ l, VR ρ (f x) (g x)) : VRs ρ (l.map f) (l.map g) := by
  induction l with
  | nil => simp [VRs]
  | cons a l ih => simp only [List.map_cons, VRs]; exact ⟨_, _, h a (by simp), ih (fun x hx => h x (by simp [hx])), rfl⟩

end Go.Ax
