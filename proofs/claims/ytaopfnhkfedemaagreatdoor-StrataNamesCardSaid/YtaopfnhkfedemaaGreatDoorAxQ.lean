/-
  AxQ: append, copy: the evaluator's against the model's.
-/
import Derived.Test.YtaopfnhkfedemaaGreatDoorAxP
set_option linter.unusedVariables false
set_option linter.unusedSimpArgs false
namespace Go.Ax

theorem Src.none {P : Program} {w : World} {ts : Array TypeId} {i : TypeInfo} {Z X : Value} {news : List Value} (s : Src P w ts i Z X 0 news) {ty t e : TypeId} (ht0 : ts[0]? = some t) (ht : P.underlying t = some (.slice e)) (hi : P.info? e = some i)
    (base : Option Addr) (sLen sCap : Nat) (hle : sLen ≤ sCap) (rest : List Value) : (Builtin.append_ ts ty (.slice base sLen sCap :: X :: rest).toArray).run P w = .ok (.slice base sLen sCap) w := by
  have hn : news = [] := List.length_eq_zero_iff.1 (by have := s.len; simpa using this)
  subst hn
  rcases s.how with ⟨t1, d1, h1, h2, h3, h4, h5⟩ | ⟨t1, k1, kx, h1, h2, rfl, _, _⟩
  · exact append_room w ts ty t t1 e d1 i ht0 h1 h2 h3 ht hi base sLen sCap 0 X rest [] (h4 w) (h5 w rfl) (by omega) (w' := w) (by cases base <;> simp [storeCells])
  · have hw := wrap_small 0 (by omega)
    simp only [Int.natCast_zero] at hw
    cases base <;> simp [Builtin.append_, ht0, h1, run_underlying ht, run_underlying h2, sizeOf, typeInfo, hi, asInt, asIntOf, hw, hle, storeCells]

/-- A NEW ROW, in a world that has drawn; the block may be larger. -/
theorem newRow_ok2 {ρ : Map} {h : Heap} {w w0 : World} (hr : HR ρ h w) (wf : WF h) (fr : ρ h.nxt = none) (h0 : w0.heap = w.heap) (hs : Same w w0) (t : TypeId) (l : List AV) (L : List Value) (hl : VRs ρ l L) (C : Array Value) (fz : Nat × Nat)
    (hc : ∀ j, j < L.length → C[j]? = L[j]?) (hn : l.length ≤ C.size) (hfz : fz = (0, 0) ∨ fz.1 = C.size) :
    Good ρ h w (upd ρ h.nxt (w.heap.size, C.size)) (newRow h t l.length .leaf l) (w0.alloc (.cells C t fz)) := by
  have g0 : Good ρ h w ρ h w0 := Good.draw (Good.refl hr wf) h0 hs
  have hr1 : HR ρ h w0 := hr.same h0
  have g1 : Good ρ h w0 (upd ρ h.nxt (w0.heap.size, C.size)) (newRow h t l.length .leaf l) (w0.alloc (.cells C t fz)) := by
    refine Good.newBlock hr1 wf fr (.row ⟨t, l.length, .leaf, l, none⟩) _ C.size (fun r e => by cases e; rfl) ?_
    refine ⟨?_, hn, fun j hj => ?_, fun j hj => ?_⟩
    · unfold World.shape?; rw [alloc_at]
    · have : (w0.alloc (.cells C t fz)).frozen? ⟨w0.heap.size, j, none⟩ = (decide (fz.1 ≤ j) && decide (j < fz.2)) := World.frozen?_alloc_mark w0 C t fz.1 fz.2 j
      rw [this]
      rcases hfz with rfl | q
      · simp
      · have : ¬ fz.1 ≤ j := by omega
        simp [this]
    · have hj' : j < l.length := hj
      have hll := hl.length
      obtain ⟨v, a, b⟩ := hl.at (List.getElem?_eq_getElem hj')
      refine ⟨v, ?_, (?_ : VR ρ _ v).mono (upd_sub fr)⟩
      · rw [World.cell?_alloc_mark, hc j (by omega)]; exact a
      · rw [Row.get_new, Nat.mod_eq_of_lt hj', List.getElem?_eq_getElem hj']; exact b
  rw [h0] at g1
  exact g0.trans g1

theorem cell_some {w : World} {B N j : Nat} {t : TypeId} (h : w.shape? B = some (t, N)) (hj : j < N) : (w.cell? ⟨B, j, none⟩).isSome = true := by
  unfold World.shape? at h
  unfold World.cell?
  cases hb : w.heap[B]? with
  | none => rw [hb] at h; cases h
  | some o =>
    rw [hb] at h
    cases o <;> simp at h ⊢
    omega

theorem zeroCells_size (z : Array Value) (n : Nat) : (Builtin.zeroCells z n).size = n * z.size := by simp [Builtin.zeroCells]

/-- a new array -/
theorem growNew_ok {P : Program} {ρ : Map} {h h' : Heap} {w : World} (hr : HR ρ h w) (wf : WF h) (fr : Free ρ h.nxt h'.nxt) {ts : Array TypeId} {i : TypeInfo} {Z X : Value} {m : Nat} {news : List Value} (s : Src P w ts i Z X m news)
    {ty t e : TypeId} (ht0 : ts[0]? = some t) (ht : P.underlying t = some (.slice e)) (hi : P.info? e = some i) (base : Option Addr) (sLen sCap : Nat) (rest olds : List Value) (hm0 : m ≠ 0)
    (ho : (Builtin.firstCells i.size sLen (.slice base sLen sCap)).run P w.drew = .ok olds.toArray w.drew) (hlo : olds.length = sLen * i.size) (hg : sCap < sLen + m) {ol cs : List AV} (hol : VRs ρ ol olds) (hcs : VRs ρ cs news) {v : AV}
    (e1 : growNew h e i.size (sLen + m) (ol ++ cs) = some (v, h')) :
    ∃ z w' ρ', (Builtin.append_ ts ty (.slice base sLen sCap :: X :: rest).toArray).run P w = .ok z w' ∧ Good ρ h w ρ' h' w' ∧ VR ρ' v z := by
  unfold growNew at e1
  split at e1
  · rename_i hle
    have hle := bleT hle
    cases e1
    have hrun := s.grow (ty := ty) ht0 ht hi base sLen sCap rest olds hm0 ho hg hle
    have hge := grownCap_ge w (sLen + m) sCap e
    generalize grownCap w (sLen + m) sCap e = G at hrun hge
    have hll := (hol.append hcs).length
    have hl2 : (olds ++ news).length = (sLen + m) * i.size := by rw [List.length_append, hlo, s.len, Nat.add_mul]
    have hl3 : (ol ++ cs).length = (sLen + m) * i.size := by rw [hll, hl2]
    have hsz : (olds.toArray ++ news.toArray ++ Builtin.zeroCells Z.cells (G - (sLen + m))).size = G * i.size := by
      rw [Array.size_append, zeroCells_size, s.zsize]
      have : (olds.toArray ++ news.toArray).size = (sLen + m) * i.size := by rw [← hl2]; simp
      rw [this, ← Nat.add_mul]; congr 1; omega
    have hG : (sLen + m) * i.size ≤ G * i.size := Nat.mul_le_mul_right _ hge
    have g := newRow_ok2 hr wf (fr _ (Nat.le_refl _) (Nat.lt_succ_self _)) (w0 := w.drew) rfl ⟨rfl, rfl, rfl, Nat.le_refl _⟩ e (ol ++ cs) (olds ++ news) (hol.append hcs)
      (olds.toArray ++ news.toArray ++ Builtin.zeroCells Z.cells (G - (sLen + m))) (0, 0) (fun j hj => by
        rw [Array.getElem?_append_left (by simpa using hj)]; simp) (by omega) (.inl rfl)
    rw [hl3] at g
    refine ⟨_, _, _, hrun, g, ?_⟩
    simp only [VR]
    exact ⟨_, _, G, upd_same _ _ _, rfl, hge, (fun _ q => by cases q), (fun _ => by rw [hsz, Nat.zero_add])⟩
  · cases e1

theorem tipRoot_ok {ρ : Map} {h : Heap} {id : Nat} {r : Row} {q : Nat} (e : tipRoot h id r = some q) (hg : h.get id = .row r) : ((r.root = none ∧ q = h.nxt) ∨ (r.root = some q ∧ h.tip q = some id)) ∧ h.ok id := by
  unfold tipRoot at e
  split at e
  · rename_i h1; cases e
    exact ⟨.inl ⟨h1, rfl⟩, (Heap.ok_row hg).2 (by rw [Heap.row_of hg, h1])⟩
  · rename_i q' h1
    split at e
    · rename_i t ht
      split at e
      · rename_i hb
        cases e
        obtain rfl := beqT hb
        exact ⟨.inr ⟨h1, ht⟩, (Heap.ok_row hg).2 (by rw [Heap.row_of hg, h1]; simp only [ht])⟩
      · cases e
    · cases e

theorem tipRow_get (r : Row) (n : Nat) (cs : List AV) (q : Nat) (j : Nat) : Row.get ⟨r.t, n, T.put none (cs.map some) r.c r.n, r.pat, some q⟩ j = if r.n ≤ j ∧ j < r.n + cs.length then (cs[j - r.n]?).getD .bad else r.get j := by
  rw [← write_c, putC_get]
  rfl

theorem tipGrow_ok {P : Program} {ρ : Map} {h h' : Heap} {w : World} (hr : HR ρ h w) (wf : WF h) (fr : Free ρ h.nxt h'.nxt) {ts : Array TypeId} {i : TypeInfo} {Z X : Value} {m : Nat} {news : List Value} (s : Src P w ts i Z X m news)
    {ty t e : TypeId} (ht0 : ts[0]? = some t) (ht : P.underlying t = some (.slice e)) (hi : P.info? e = some i) (hm0 : m ≠ 0) (rest : List Value) {cs : List AV} (hcs : VRs ρ cs news) {id off len B N C : Nat} (hp : ρ id = some (B, N)) (hle : len ≤ C)
    (hN : off + C * i.size = N) {r : Row} (hrow : h.get id = .row r) {v : AV} (e1 : tipGrow h e id off len i.size m cs r = some (v, h')) :
    ∃ z w' ρ', (Builtin.append_ ts ty (.slice (some ⟨B, off, none⟩) len C :: X :: rest).toArray).run P w = .ok z w' ∧ Good ρ h w ρ' h' w' ∧ VR ρ' v z := by
  unfold tipGrow at e1
  split at e1
  · cases e1
  · rename_i hrn
    have hrn := beqT hrn
    split at e1
    · cases e1
    · rename_i hsm
      have hsm := bleT hsm
      split at e1
      · cases e1
      · rename_i ho
        split at e1
        · cases e1
        · rename_i q hq
          obtain ⟨hq1, hok⟩ := tipRoot_ok (ρ := ρ) hq hrow
          split at e1
          · rename_i h0
            obtain rfl : off = 0 := beqT h0
            have hte : r.t = e := by
              split at e1
              · rename_i q; exact beqT q
              · cases e1
            rw [show Nat.beq r.t e = true from hte ▸ Nat.beq_refl _] at e1
            have e2 : v = .sl h.nxt 0 (len + m) none i.size ∧ h' = Ax.growTip h id r ⟨r.t, r.n + m * i.size, T.put none (cs.map some) r.c r.n, r.pat, some q⟩ q := by
              simp only [Option.some.injEq, Prod.mk.injEq] at e1; exact ⟨e1.1.symm, e1.2.symm⟩
            obtain ⟨rfl, rfl⟩ := e2
            have fr0 : ρ h.nxt = none := fr _ (Nat.le_refl _) (Nat.lt_succ_self _)
            have ro := hr.ok id B N hp hok
            rw [hrow] at ro
            have hcl := hcs.length
            have hnl := s.len
            have hmul : (len + m) * i.size = len * i.size + m * i.size := Nat.add_mul _ _ _
            simp only [Nat.zero_add] at hrn hN
            by_cases hroom : len + m ≤ C
            · have hNle : (len + m) * i.size ≤ N := by rw [← hN]; exact Nat.mul_le_mul_right _ hroom
              have c1 : ∀ j, j < news.length → (w.cell? ⟨B, r.n + j, none⟩).isSome = true := fun j hj => cell_some ro.1 (by omega)
              have c2 : ∀ j, j < news.length → w.frozen? ⟨B, r.n + j, none⟩ = false := fun j hj => ro.2.2.1 _ (by omega)
              have hst := run_storeCells_cells (P := P) B r.n news 0 w (by simpa using c1) (by simpa using c2) (ones_ok ho hcs)
              have hrun := s.room (ty := ty) ht0 ht hi (some ⟨B, 0, none⟩) len C rest hm0 hroom (w' := w.setCells B r.n news) (by
                show (storeCells ((⟨B, 0, none⟩ : Addr).add (len * i.size)) news).run P w = _
                rw [add_off, Nat.zero_add, ← hrn]; simpa using hst)
              have g := Good.growTip hr wf fr0 hp hrow hq1 (r2 := ⟨r.t, r.n + m * i.size, T.put none (cs.map some) r.c r.n, r.pat, some q⟩) rfl (Nat.le_add_right _ _) B N
                (w' := w.setCells B r.n news) ?_ (.inl ⟨rfl, rfl, size_setCells _ _ _ _, fun D hD => heap_setCells_ne B D hD news r.n w, shape_setCells _ _ _ _ _, fun j => World.frozen?_setCells _ _ _ _ _,
                  fun j hj => World.cell?_setCells_out B news r.n w ⟨B, j, none⟩ (fun _ _ => .inl hj)⟩) (same_setCells _ _ _ _)
              · refine ⟨_, _, _, hrun, g, ?_⟩
                simp only [VR]
                exact ⟨B, N, C, upd_same _ _ _, rfl, hroom, (fun _ q => by cases q), (fun _ => by rw [Nat.zero_add]; exact hN)⟩
              · refine ⟨by rw [shape_setCells]; exact ro.1, by show r.n + m * i.size ≤ N; omega, fun j hj => by rw [World.frozen?_setCells]; exact ro.2.2.1 j hj, fun j hj => ?_⟩
                have hj' : j < r.n + m * i.size := hj
                rw [tipRow_get]
                by_cases hjr : j < r.n
                · rw [if_neg (by omega)]
                  obtain ⟨x, x1, x2⟩ := ro.2.2.2 j hjr
                  refine ⟨x, ?_, x2.mono (upd_sub fr0)⟩
                  rw [World.cell?_setCells_out B news r.n w ⟨B, j, none⟩ (fun _ _ => .inl hjr)]; exact x1
                · rw [if_pos (by omega)]
                  have hk : j - r.n < cs.length := by omega
                  obtain ⟨x, x1, x2⟩ := hcs.at (List.getElem?_eq_getElem hk)
                  rw [List.getElem?_eq_getElem hk]
                  have := World.cell?_setCells_in B news r.n w c1 (j - r.n) (by omega)
                  rw [show r.n + (j - r.n) = j by omega] at this
                  refine ⟨_, this, VR.mono (upd_sub fr0) _ ?_⟩
                  have x3 : news[j - r.n] = x := by
                    have := List.getElem?_eq_getElem (l := news) (i := j - r.n) (by omega)
                    rw [x1] at this; exact (Option.some.inj this).symm
                  rw [x3]; exact x2
            · have hg : C < len + m := by omega
              obtain ⟨L, l1, l2, l3⟩ := RowOk.reads ro (len * i.size) 0 (by omega)
              simp only [Nat.zero_add] at l3
              have hof := run_firstCells_some (P := P) w.drew i.size len ⟨B, 0, none⟩ len C L l2 (fun j u hj => by rw [add_off, Nat.zero_add]; exact l3 j u hj)
              have hrun := s.grow (ty := ty) ht0 ht hi (some ⟨B, 0, none⟩) len C rest L hm0 hof hg hsm
              have hge := grownCap_ge w (len + m) C e
              generalize grownCap w (len + m) C e = G at hrun hge
              have hsz : (L.toArray ++ news.toArray ++ Builtin.zeroCells Z.cells (G - (len + m))).size = G * i.size := by
                rw [Array.size_append, zeroCells_size, s.zsize]
                have : (L.toArray ++ news.toArray).size = (len + m) * i.size := by simp [l2, hnl, hmul]
                rw [this, ← Nat.add_mul]; congr 1; omega
              have hG : (len + m) * i.size ≤ G * i.size := Nat.mul_le_mul_right _ hge
              have hall : ∀ j, j < (L ++ news).length → (L.toArray ++ news.toArray ++ Builtin.zeroCells Z.cells (G - (len + m)))[j]? = (L ++ news)[j]? := fun j hj => by
                rw [Array.getElem?_append_left (by simpa using hj)]; simp
              generalize L.toArray ++ news.toArray ++ Builtin.zeroCells Z.cells (G - (len + m)) = CC at hrun hsz hall
              have g := Good.growTip hr wf fr0 hp hrow hq1 (r2 := ⟨r.t, r.n + m * i.size, T.put none (cs.map some) r.c r.n, r.pat, some q⟩) rfl (Nat.le_add_right _ _) w.heap.size (G * i.size)
                (w' := w.drew.alloc (.cells CC e)) ?_ (.inr ⟨rfl, by simp, fun D hD => alloc_block w.drew _ hD⟩) ⟨rfl, rfl, rfl, by simp⟩
              · refine ⟨_, _, _, hrun, g, ?_⟩
                simp only [VR]
                exact ⟨_, _, G, upd_same _ _ _, rfl, hge, (fun _ q => by cases q), (fun _ => by rw [Nat.zero_add])⟩
              · refine ⟨?_, by show r.n + m * i.size ≤ G * i.size; omega, fun j hj => World.frozen?_alloc_at (w := w.drew) CC e _ j rfl, fun j hj => ?_⟩
                · show (w.drew.alloc (.cells CC e)).shape? w.drew.heap.size = _
                  unfold World.shape?; rw [alloc_at]; simp only [hsz, hte]
                · have hj' : j < r.n + m * i.size := hj
                  rw [tipRow_get]
                  have hl4 : (L ++ news).length = len * i.size + m * i.size := by simp [l2, hnl]
                  have hcell : (w.drew.alloc (.cells CC e)).cell? ⟨w.heap.size, j, none⟩ = (L ++ news)[j]? := by
                    rw [show (w.drew.alloc (.cells CC e)).cell? ⟨w.heap.size, j, none⟩ = CC[j]? from World.cell?_alloc_at (w := w.drew) CC e _ j rfl]; exact hall j (by omega)
                  rw [hcell]
                  by_cases hjr : j < r.n
                  · rw [if_neg (by omega)]
                    obtain ⟨x, x1, x2⟩ := ro.2.2.2 j hjr
                    refine ⟨x, ?_, x2.mono (upd_sub fr0)⟩
                    rw [List.getElem?_append_left (by omega)]
                    have hL := List.getElem?_eq_getElem (l := L) (i := j) (by omega)
                    have := l3 j _ hL
                    rw [x1] at this; cases this; exact hL
                  · rw [if_pos (by omega)]
                    have hk : j - r.n < cs.length := by omega
                    obtain ⟨x, x1, x2⟩ := hcs.at (List.getElem?_eq_getElem hk)
                    rw [List.getElem?_eq_getElem hk]
                    refine ⟨x, ?_, x2.mono (upd_sub fr0)⟩
                    rw [List.getElem?_append_right (by omega), l2, ← hrn]; exact x1
          · cases e1

/-- a row's first cells alone -/
theorem cutRow_ok {ρ : Map} {h h2 : Heap} {w : World} (hr : HR ρ h w) (wf : WF h) {id k B N : Nat} (hp : ρ id = some (B, N)) {r : Row} (e : cutRow h id k = some (r, h2)) :
    Good ρ h w ρ h2 w ∧ h2.get id = .row r ∧ h2.nxt = h.nxt := by
  unfold cutRow at e
  split at e
  · cases e
  · rename_i h1 hw
    obtain ⟨g, _, _, _⟩ := wCells_ok hr wf hw hp (L := []) (by simp [VRs])
    have hw0 : w.setCells B 0 [] = w := rfl
    rw [hw0] at g
    have hn1 : h1.nxt = h.nxt := by
      unfold wCells at hw
      split at hw
      · rename_i r0 h0 hm
        obtain ⟨_, _, _, _, q, _⟩ := Heap.mine_spec hm
        split at hw
        · split at hw
          · cases hw; exact q
          · cases hw
        · cases hw
      · cases hw
    split at e
    · rename_i r1 hg1
      split at e
      · rename_i hroot
        split at e
        · rename_i hk
          have hk := bleT hk
          cases e
          have hm : h1.mine id = some (r1, h1) := by
            unfold Heap.mine; rw [hg1]; simp only [hroot]
          have hok : h1.ok id := (Heap.ok_row hg1).2 (by rw [Heap.row_of hg1, hroot])
          have ro := g.hr.ok id B N hp hok
          rw [hg1] at ro
          have g2 := Good.writeRow0 g.hr g.wf hp hm (r' := ⟨r1.t, k, r1.c, r1.pat, none⟩) rfl
            (show RowOk ρ ⟨r1.t, k, r1.c, r1.pat, none⟩ B N w from ⟨ro.1, Nat.le_trans hk ro.2.1, ro.2.2.1, fun j hj => ro.2.2.2 j (Nat.lt_of_lt_of_le hj hk)⟩)
            (fun _ _ => rfl) (Same.refl w) rfl
          exact ⟨g.trans g2, by rw [Heap.get_put, if_pos rfl], hn1⟩
        · cases e
      · cases e
    · cases e

theorem appCells_ok {P : Program} {ρ : Map} {h h' : Heap} {w : World} (hr : HR ρ h w) (wf : WF h) (fr : Free ρ h.nxt h'.nxt) {ts : Array TypeId} {i : TypeInfo} {Z X S : Value} {m : Nat} {news : List Value} (s : Src P w ts i Z X m news)
    {ty t e : TypeId} (ht0 : ts[0]? = some t) (ht : P.underlying t = some (.slice e)) (hi : P.info? e = some i) (rest : List Value) {cs : List AV} (hcs : VRs ρ cs news) {a v : AV} (hs : VR ρ a S)
    (e1 : appCells h e i.size m cs a = some (v, h')) :
    ∃ z w' ρ', (Builtin.append_ ts ty (S :: X :: rest).toArray).run P w = .ok z w' ∧ Good ρ h w ρ' h' w' ∧ VR ρ' v z := by
  unfold appCells at e1
  split at e1
  · simp only [VR] at hs; subst hs
    split at e1
    · cases e1
      exact ⟨_, w, ρ, s.none ht0 ht hi none 0 0 (Nat.le_refl _) rest, Good.refl hr wf, by simp only [VR]⟩
    · rename_i m
      exact growNew_ok hr wf fr s ht0 ht hi none 0 0 rest [] (by omega) (by simp [Builtin.firstCells]) (by simp) (by omega) (ol := []) (by simp [VRs]) hcs (by rw [Nat.zero_add]; exact e1)
  · rename_i id off len cap z'
    split at e1
    · cases e1
    · rename_i hz
      obtain rfl := beqT hz
      simp only [VR] at hs
      obtain ⟨B, N, C, hp, rfl, hle, hk, hn⟩ := hs
      split at e1
      · cases e1
        exact ⟨_, w, ρ, s.none ht0 ht hi _ len C hle rest, Good.refl hr wf, by simp only [VR]; exact ⟨B, N, C, hp, rfl, hle, hk, hn⟩⟩
      · rename_i m
        have hm0 : m + 1 ≠ 0 := by omega
        -- in place
        have inplace : ∀ h1, wCells h id (off + len * i.size) cs = some h1 → len + (m + 1) ≤ C → h' = h1 → v = .sl id off (len + (m + 1)) cap i.size →
            ∃ z w' ρ', (Builtin.append_ ts ty (.slice (some ⟨B, off, none⟩) len C :: X :: rest).toArray).run P w = .ok z w' ∧ Good ρ h w ρ' h' w' ∧ VR ρ' v z := fun h1 hw hroom q1 q2 => by
          subst q1; subst q2
          obtain ⟨g, g1, g2, g3⟩ := wCells_ok hr wf hw hp hcs
          have hst := run_storeCells_cells (P := P) B (off + len * i.size) news 0 w (by simpa using g1) (by simpa using g2) g3
          refine ⟨_, _, _, s.room (ty := ty) ht0 ht hi (some ⟨B, off, none⟩) len C rest hm0 hroom (w' := w.setCells B (off + len * i.size) news) (by simpa [add_off] using hst), g, ?_⟩
          simp only [VR]
          exact ⟨B, N, C, hp, rfl, hroom, hk, hn⟩
        unfold appSl at e1
        split at e1
        · rename_i kk
          obtain rfl := hk kk rfl
          split at e1
          · rename_i hroom
            have hroom := bleT hroom
            split at e1
            · rename_i h1 hw
              cases e1
              exact inplace _ hw hroom rfl rfl
            · cases e1
          · rename_i hnr
            have hnr : C < len + (m + 1) := by
              rcases Nat.lt_or_ge C (len + (m + 1)) with q | q
              · exact q
              · rw [Nat.ble_eq_true_of_le q] at hnr; cases hnr
            split at e1
            · rename_i r hrow
              split at e1
              · rename_i hb
                have hb := bleT hb
                obtain ⟨L, l1, l2, l3⟩ := RowOk.reads (hr.rowAt hrow hp) (len * i.size) off hb
                have ho := run_firstCells_some (P := P) w.drew i.size len ⟨B, off, none⟩ len C L l2 (fun j u hj => by rw [add_off]; exact l3 j u hj)
                exact growNew_ok hr wf fr s ht0 ht hi _ len C rest L hm0 ho l2 hnr l1 hcs e1
              · cases e1
            · cases e1
        · split at e1
          · rename_i r hrow
            split at e1
            · rename_i hext
              have hext := bleT hext
              split at e1
              · rename_i h1 hw
                cases e1
                refine inplace _ hw ?_ rfl rfl
                -- the room is there: the row lies within the block
                unfold wCells at hw
                split at hw
                · rename_i r' h2 hmine
                  obtain ⟨s0, hs0, hok, hrs, _⟩ := Heap.mine_spec hmine
                  rw [hrow] at hs0; cases hs0
                  have ro := hr.ok id B N hp hok
                  rw [hrow] at ro
                  have h3 := ro.2.1
                  have h4 := hn rfl
                  have h5 : (len + (m + 1)) * i.size ≤ C * i.size := by omega
                  exact Nat.le_of_mul_le_mul_right h5 (Nat.pos_of_ne_zero s.size)
                · cases hw
              · cases e1
            · split at e1
              · exact tipGrow_ok hr wf fr s ht0 ht hi hm0 rest hcs hp hle (hn rfl) hrow e1
              · split at e1
                · rename_i r' h2 hcut
                  obtain ⟨g, hget, hnxt⟩ := cutRow_ok hr wf hp hcut
                  obtain ⟨z, w', ρ', q1, q2, q3⟩ := tipGrow_ok g.hr g.wf (by rw [hnxt]; exact fr) s ht0 ht hi hm0 rest hcs hp hle (hn rfl) hget e1
                  exact ⟨z, w', ρ', q1, g.trans q2, q3⟩
                · cases e1
          · cases e1
  · cases e1
end Go.Ax
