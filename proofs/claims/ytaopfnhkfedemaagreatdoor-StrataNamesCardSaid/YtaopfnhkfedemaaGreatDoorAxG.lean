/-
  AxG: numbers, texts, and the other operations that touch no memory.
-/
import Derived.Test.YtaopfnhkfedemaaGreatDoorAxF
set_option linter.unusedVariables false
set_option linter.unusedSimpArgs false
namespace Go.Ax

/-! ## numbers -/
theorem ilt_eq (a b : Int) : ilt a b = decide (a < b) := by
  unfold ilt
  cases a with
  | ofNat a =>
    cases b with
    | ofNat b =>
      simp only []
      rw [Bool.eq_iff_iff]; simp [Nat.ble_eq]; omega
    | negSucc b =>
      simp only []
      rw [eq_comm, decide_eq_false_iff_not]; have := Int.negSucc_lt_zero b; simp; omega
  | negSucc a =>
    cases b with
    | ofNat b =>
      simp only []
      rw [eq_comm, decide_eq_true_eq]; have := Int.negSucc_lt_zero a; simp; omega
    | negSucc b =>
      simp only []
      rw [Bool.eq_iff_iff]; simp [Nat.ble_eq, Int.negSucc_eq]; omega
theorem ieq_eq (a b : Int) : ieq a b = (a == b) := by
  unfold ieq
  cases a with
  | ofNat a =>
    cases b with
    | ofNat b =>
      simp only []
      rw [Bool.eq_iff_iff]; simp; omega
    | negSucc b => simp only []; rfl
  | negSucc a =>
    cases b with
    | ofNat b => simp only []; rfl
    | negSucc b =>
      simp only []
      rw [Bool.eq_iff_iff]; simp
theorem ikEq_eq (a b : IntKind) : ikEq a b = true ↔ a = b := by cases a <;> cases b <;> simp [ikEq]
theorem pw_eq (k : IntKind) : (pw k : Int) = 2 ^ k.bits := by cases k <;> rfl
theorem um_eq (k : IntKind) (n : Int) : (um k n : Int) = n % (2 ^ k.bits : Int) := by
  rw [← pw_eq]
  unfold um
  cases n with
  | ofNat a => simp
  | negSucc a =>
    simp only []
    have hp : 0 < pw k := by cases k <;> simp [pw]
    have hlt : a % pw k < pw k := Nat.mod_lt _ hp
    have h1 : ((pw k - 1 - a % pw k : Nat) : Int) = (pw k : Int) - 1 - (a % pw k : Nat) := by omega
    rw [h1]
    have h2 : (Int.negSucc a) = ((pw k : Int) - 1 - (a % pw k : Nat)) + (pw k : Int) * (-(a / pw k : Nat) - 1) := by
      have := Nat.div_add_mod a (pw k)
      rw [Int.negSucc_eq]
      have h3 : (a : Int) = (pw k : Int) * (a / pw k : Nat) + (a % pw k : Nat) := by exact_mod_cast this.symm
      rw [h3, Int.mul_sub, Int.mul_neg]
      have h4 : ((pw k : Int) * (a / pw k : Nat) + (a % pw k : Nat)) / (pw k : Int) = (a / pw k : Nat) := by rw [← h3]; norm_cast
      omega
    rw [h2, Int.add_mul_emod_self_left, Int.emod_eq_of_lt (by omega) (by omega)]
theorem um_lt (k : IntKind) (n : Int) : um k n < pw k := by
  have h := um_eq k n
  have hp : (0 : Int) < pw k := by cases k <;> simp [pw]
  rw [← pw_eq] at h
  have := Int.emod_lt_of_pos n hp
  omega
theorem wr_eq (k : IntKind) (n : Int) : wr k n = k.wrap n := by
  have h := um_eq k n
  have hl := um_lt k n
  unfold wr IntKind.wrap
  simp only []
  rw [← h]
  cases hs : k.signed with
  | false => simp
  | true =>
    simp only [Bool.true_and]
    have hp := pw_eq k
    have h2 : (2 ^ (k.bits - 1) : Int) * 2 = pw k := by cases k <;> simp [IntKind.signed] at hs <;> rfl
    by_cases hb : pw k ≤ 2 * um k n
    · rw [show Nat.ble (pw k) (2 * um k n) = true from Nat.ble_eq ▸ hb]
      simp only []
      rw [if_pos (by simp; omega), ← hp, Int.negSucc_eq]
      omega
    · rw [show Nat.ble (pw k) (2 * um k n) = false by cases e : Nat.ble (pw k) (2 * um k n); rfl; exact absurd (bleT e) hb]
      simp only []
      rw [if_neg (by simp; omega)]
      rfl

section
variable {P : Program}
theorem um_toNat (k : IntKind) (n : Int) : (BitVec.ofInt k.bits n).toNat = um k n := by
  have := um_eq k n
  rw [BitVec.toNat_ofInt]
  have hp : ((2 ^ k.bits : Nat) : Int) = (2 ^ k.bits : Int) := by norm_cast
  rw [hp, ← this]; simp
theorem pw_nat (k : IntKind) : pw k = 2 ^ k.bits := by cases k <;> rfl

theorem intOp_ok {op : BinOp} {k : IntKind} {a b : Int} {v : AV} (e : intOp op k a b = some v) (t : TypeId) (w : World) (ρ : Map) (h1 : op ≠ .shl) (h2 : op ≠ .shr) :
    ∃ y, (binOp op t (.int k a) (.int k b)).run P w = .ok y w ∧ VR ρ v y := by
  unfold intOp at e
  cases op <;> simp only [] at e
  case add => cases e; exact ⟨.int k (k.wrap (a + b)), by simp [binOp, Op.intArith], by simp only [VR, wr_eq]⟩
  case sub => cases e; exact ⟨.int k (k.wrap (a - b)), by simp [binOp, Op.intArith], by simp only [VR, wr_eq]⟩
  case mul => cases e; exact ⟨.int k (k.wrap (a * b)), by simp [binOp, Op.intArith], by simp only [VR, wr_eq]⟩
  case quo =>
    rw [ieq_eq] at e
    by_cases hb : b = 0
    · subst hb; simp at e
    · have : (b == 0) = false := by simpa using hb
      rw [this] at e; cases e
      exact ⟨.int k (k.wrap (a.tdiv b)), by simp [binOp, Op.intDiv, hb], by simp only [VR, wr_eq]⟩
  case rem =>
    rw [ieq_eq] at e
    by_cases hb : b = 0
    · subst hb; simp at e
    · have : (b == 0) = false := by simpa using hb
      rw [this] at e; cases e
      exact ⟨.int k (a.tmod b), by simp [binOp, Op.intDiv, hb], by simp only [VR]⟩
  case and => cases e; exact ⟨.int k (k.wrap (BitVec.ofInt k.bits a &&& BitVec.ofInt k.bits b).toNat), by simp [binOp, Op.intBits], by simp only [VR, wr_eq, BitVec.toNat_and, um_toNat]; rfl⟩
  case or => cases e; exact ⟨.int k (k.wrap (BitVec.ofInt k.bits a ||| BitVec.ofInt k.bits b).toNat), by simp [binOp, Op.intBits], by simp only [VR, wr_eq, BitVec.toNat_or, um_toNat]; rfl⟩
  case xor => cases e; exact ⟨.int k (k.wrap (BitVec.ofInt k.bits a ^^^ BitVec.ofInt k.bits b).toNat), by simp [binOp, Op.intBits], by simp only [VR, wr_eq, BitVec.toNat_xor, um_toNat]; rfl⟩
  case andNot =>
    cases e
    exact ⟨.int k (k.wrap (BitVec.ofInt k.bits a &&& ~~~(BitVec.ofInt k.bits b)).toNat), by simp [binOp, Op.intBits], by simp only [VR, wr_eq, BitVec.toNat_and, BitVec.toNat_not, um_toNat, pw_nat]; rfl⟩
  case shl => exact absurd rfl h1
  case shr => exact absurd rfl h2
  case eql => cases e; exact ⟨.bool (a == b), by simp [binOp, Op.intCmp], by simp only [VR, ieq_eq]⟩
  case neq => cases e; exact ⟨.bool (a != b), by simp [binOp, Op.intCmp], by simp only [VR, ieq_eq]; rfl⟩
  case lss => cases e; exact ⟨.bool (decide (a < b)), by simp [binOp, Op.intCmp], by simp only [VR, ilt_eq]⟩
  case leq => cases e; exact ⟨.bool (decide (a ≤ b)), by simp [binOp, Op.intCmp], by simp only [VR, ilt_eq]; congr 1; rw [Bool.eq_iff_iff]; simp⟩
  case gtr => cases e; exact ⟨.bool (decide (a > b)), by simp [binOp, Op.intCmp], by simp only [VR, ilt_eq]⟩
  case geq => cases e; exact ⟨.bool (decide (a ≥ b)), by simp [binOp, Op.intCmp], by simp only [VR, ilt_eq]; congr 1; rw [Bool.eq_iff_iff]; simp⟩

theorem bitw_eq (k : IntKind) : bitw k = k.bits := by cases k <;> rfl
theorem shiftOp_ok {op : BinOp} {k j : IntKind} {a b : Int} {v : AV} (e : shiftOp op k a b = some v) (t : TypeId) (w : World) (ρ : Map) :
    ∃ y, (binOp op t (.int k a) (.int j b)).run P w = .ok y w ∧ VR ρ v y := by
  unfold shiftOp at e
  cases b with
  | negSucc b => cases e
  | ofNat b =>
    simp only [] at e
    have hb : ¬ ((b : Int) < 0) := by omega
    have hb2 : (Int.ofNat b).toNat = b := rfl
    cases op <;> simp only [] at e <;> try (cases e; done)
    case shl =>
      refine ⟨.int k (k.wrap (a * 2 ^ (min b k.bits))), by show (binOp _ t (.int k a) (.int j (b : Int))).run P w = _; simp [binOp, Op.shift, hb], ?_⟩
      cases a with
      | ofNat a =>
        cases e
        simp only [VR, wr_eq, bitw_eq]
        congr 2
        show (a : Int) * 2 ^ (min b k.bits) = ((a <<< (min b k.bits) : Nat) : Int)
        rw [Nat.shiftLeft_eq]; norm_cast
      | negSucc a => cases e; simp only [VR, wr_eq, bitw_eq]
    case shr =>
      refine ⟨.int k (a.fdiv (2 ^ (min b k.bits))), by show (binOp _ t (.int k a) (.int j (b : Int))).run P w = _; simp [binOp, Op.shift, hb], ?_⟩
      cases a with
      | ofNat a =>
        cases e
        simp only [VR, bitw_eq]
        congr 1
        rw [Int.fdiv_eq_ediv_of_nonneg _ (Int.le_of_lt (Int.pow_pos (by decide)))]
        show (a : Int) / 2 ^ (min b k.bits) = ((a >>> (min b k.bits) : Nat) : Int)
        rw [Nat.shiftRight_eq_div_pow]; norm_cast
      | negSucc a => cases e; simp only [VR, bitw_eq]
end

/-! ## texts -/
theorem bs_toList (l : List Nat) : (bs l).toList = l.map UInt8.ofNat := by
  have : (bs l).data.toList = l.map UInt8.ofNat := by simp [bs]
  rw [← this]; exact ByteArray.toList_eq (bs l)
theorem bs_size (l : List Nat) : (bs l).size = l.length := by simp [bs, ByteArray.size]
theorem ofNat_eq (a b : Nat) : (UInt8.ofNat a == UInt8.ofNat b) = Nat.beq (a % 256) (b % 256) := by
  rw [Bool.eq_iff_iff, beq_iff_eq, ← UInt8.toNat_inj]
  simp
theorem ofNat_lt (a b : Nat) : decide (UInt8.ofNat a < UInt8.ofNat b) = Nat.ble (a % 256 + 1) (b % 256) := by
  rw [Bool.eq_iff_iff, decide_eq_true_eq, UInt8.lt_iff_toNat_lt, Nat.ble_eq]
  simp; omega
theorem strEq_eq : ∀ (a b : List Nat), strEq a b = (a.map UInt8.ofNat == b.map UInt8.ofNat)
  | [], [] => rfl
  | [], _ :: _ => rfl
  | _ :: _, [] => rfl
  | x :: a, y :: b => by
    show (match Nat.beq (x % 256) (y % 256) with | true => strEq a b | false => false) = _
    rw [← ofNat_eq, strEq_eq a b]
    simp only [List.map_cons, List.cons_beq_cons]
    cases (UInt8.ofNat x == UInt8.ofNat y) <;> rfl
theorem strLt_eq : ∀ (a b : List Nat), strLt a b = Op.bytesLess (a.map UInt8.ofNat) (b.map UInt8.ofNat)
  | [], [] => rfl
  | [], _ :: _ => rfl
  | _ :: _, [] => rfl
  | x :: a, y :: b => by
    show (match Nat.beq (x % 256) (y % 256) with | true => strLt a b | false => Nat.ble (x % 256 + 1) (y % 256)) = _
    rw [← ofNat_eq, ← ofNat_lt, strLt_eq a b]
    simp only [List.map_cons, Op.bytesLess]
    by_cases h : UInt8.ofNat x = UInt8.ofNat y
    · rw [h]; simp
    · have : (UInt8.ofNat x == UInt8.ofNat y) = false := by simpa using h
      rw [this]; simp

theorem strOp_ok {P : Program} {op : BinOp} {a b : List Nat} {v : AV} (e : strOp op a b = some v) (t : TypeId) (w : World) (ρ : Map) :
    ∃ y, (binOp op t (.string (bs a)) (.string (bs b))).run P w = .ok y w ∧ VR ρ v y := by
  unfold strOp at e
  cases op <;> simp only [] at e <;> try (cases e; done)
  case add =>
    split at e
    · rename_i hb
      cases e
      have := bleT hb
      have h1 : ¬ (((bs a).size + (bs b).size : Nat) : Int) > IntKind.i64.max := by
        rw [bs_size, bs_size]; simp [IntKind.max, IntKind.signed, IntKind.bits]; omega
      refine ⟨.string (bs a ++ bs b), by simp [binOp, Op.stringOp]; simp at h1; exact h1, ?_⟩
      simp only [VR]
      congr 1
      apply ByteArray.ext
      simp [bs, ByteArray.data_append]
    · cases e
  case eql => cases e; exact ⟨.bool ((bs a).toList == (bs b).toList), by simp [binOp, Op.stringOp], by simp only [VR, bs_toList, strEq_eq]⟩
  case neq => cases e; exact ⟨.bool (!((bs a).toList == (bs b).toList)), by simp [binOp, Op.stringOp], by simp only [VR, bs_toList, strEq_eq]⟩
  case lss => cases e; exact ⟨.bool (Op.bytesLess (bs a).toList (bs b).toList), by simp [binOp, Op.stringOp], by simp only [VR, bs_toList, strLt_eq]⟩
  case leq => cases e; exact ⟨.bool (Op.bytesLess (bs a).toList (bs b).toList || (bs a).toList == (bs b).toList), by simp [binOp, Op.stringOp], by simp only [VR, bs_toList, strEq_eq, strLt_eq]⟩
  case gtr => cases e; exact ⟨.bool (!(Op.bytesLess (bs a).toList (bs b).toList || (bs a).toList == (bs b).toList)), by simp [binOp, Op.stringOp], by simp only [VR, bs_toList, strEq_eq, strLt_eq]⟩
  case geq => cases e; exact ⟨.bool (!(Op.bytesLess (bs a).toList (bs b).toList)), by simp [binOp, Op.stringOp], by simp only [VR, bs_toList, strLt_eq]⟩

theorem un_ok {P : Program} {op : UnOp} {x v : AV} {y : Value} {ρ : Map} (e : oUn op x = some v) (hx : VR ρ x y) (w : World) : ∃ z, (Op.unary op y).run P w = .ok z w ∧ VR ρ v z := by
  unfold oUn at e
  cases op <;> simp only [] at e <;> try (cases e; done)
  case not =>
    split at e
    · cases e; simp only [VR] at hx; subst hx; exact ⟨_, by simp [Op.unary]; rfl, by simp only [VR]⟩
    · cases e
  case neg =>
    split at e
    · rename_i k n
      cases e; simp only [VR] at hx; subst hx; exact ⟨.int k (k.wrap (0 - n)), by simp [Op.unary, Op.intArith], by simp only [VR, wr_eq]⟩
    · cases e

theorem extract_ok {P : Program} {x v : AV} {i : Nat} {y : Value} {ρ : Map} (e : oExtract x i = some v) (hx : VR ρ x y) (w : World) : ∃ z, (Instr.extract y i).run P w = .ok z w ∧ VR ρ v z := by
  unfold oExtract at e
  split at e
  · simp only [VR] at hx
    obtain ⟨L, hl, rfl⟩ := hx
    rw [nth_eq] at e
    obtain ⟨z, h1, h2⟩ := hl.at e
    exact ⟨z, by simp [Instr.extract, h1], h2⟩
  · cases e

section
variable {c : Ctx} (k : CtxOk c)
include k

theorem index_ok {ρ : Map} {t : TypeId} {x i v : AV} {y j : Value} (e : oIndex c t x i = some v) (hx : VR ρ x y) (hi : VR ρ i j) : ∃ z, (∀ w, (Instr.index t y j).run c.P w = .ok z w) ∧ VR ρ v z := by
  unfold oIndex at e
  split at e
  · rename_i ik i
    simp only [VR] at hi; subst hi
    split at e
    · rename_i d hd
      split at e
      · split at e
        · rename_i l
          simp only [VR] at hx; subst hx
          split at e
          · rename_i m
            split at e
            · rename_i b hb
              cases e
              rw [nth_eq] at hb
              have hs : (bs l)[m]? = some (UInt8.ofNat b) := by
                have hlt := (List.getElem?_eq_some_iff.1 hb).1
                rw [getElem?_pos (bs l) m (by rw [bs_size]; exact hlt)]
                congr 1
                have h2 := (List.getElem?_eq_some_iff.1 hb).2
                simp [bs, ByteArray.getElem_eq_getElem_data, h2]
              refine ⟨.int .u8 (UInt8.ofNat b).toNat, fun w => ?_, by simp only [VR]; simp⟩
              have hm : (0 : Int) ≤ Int.ofNat m := Int.natCast_nonneg m
              simp [Instr.index, asIntOf, run_under k hd, hs]
            · cases e
          · cases e
        · cases e
      · rename_i n el
        split at e
        · rename_i l
          simp only [VR] at hx
          obtain ⟨L, hl, rfl⟩ := hx
          split at e
          · rename_i m hm
            obtain ⟨rfl, hlt⟩ := inRange_ok hm
            split at e
            · rename_i s hsz
              obtain ⟨z, h1, h2⟩ := part_ok k hl e
              refine ⟨z, fun w => ?_, h2⟩
              have h3 : ¬ n ≤ m := by omega
              simp [Instr.index, asIntOf, run_under k hd, run_size k hsz, h1, h3]
            · cases e
          · cases e
        · cases e
      · cases e
    · cases e
  · cases e

theorem makeInterface_ok {ρ : Map} {t : TypeId} {x v : AV} {y : Value} (e : oMakeInterface c t x = some v) (hx : VR ρ x y) : ∃ z, (∀ w, (Instr.makeInterface t y).run c.P w = .ok z w) ∧ VR ρ v z := by
  unfold oMakeInterface at e
  split at e
  · rename_i d hd
    refine ⟨.iface t y, fun w => ?_, ?_⟩
    · unfold Instr.makeInterface
      rw [Sem.run_bind, run_under k hd]
      cases d <;> simp_all
    · cases d <;> simp at e <;> (subst e; simp only [VR]; exact ⟨_, hx, rfl⟩)
  · cases e

theorem toArrayPtr_ok {ρ : Map} {t : TypeId} {x v : AV} {y : Value} (e : oToArrayPtr c t x = some v) (hx : VR ρ x y) : ∃ z, (∀ w, (Instr.arrayAt t y).run c.P w = .ok z w) ∧ VR ρ v z := by
  unfold oToArrayPtr at e
  split at e
  · rename_i d hd
    split at e
    · rename_i n el
      split at e
      · rename_i id off len cap z
        split at e
        · rename_i hb
          cases e
          simp only [VR] at hx
          obtain ⟨B, N, C, hp, rfl, _⟩ := hx
          have := bleT hb
          refine ⟨.pointer (some ⟨B, off, none⟩), fun w => ?_, by simp only [VR]; exact ⟨B, N, hp, rfl⟩⟩
          have h2 : ¬ len < n := by omega
          simp [Instr.arrayAt, run_under k hd, h2]
        · cases e
      · cases e
    · cases e
  · cases e
end
end Go.Ax
