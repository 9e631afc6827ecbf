/- A slice of the call's own as a piece of memory: what is read, stored, cut and appended. No program in sight. -/
import Derived.Test.YtfackochjlccpaaSp
import Derived.OwnWalkIn
namespace Go.Proofs.Ytfackochjlccpaa
open Go Go.RowKit
set_option linter.unusedVariables false

/-- The slice (A, n, c) owns the cells xs: it is nil, or begins at the head of a block of its own. -/
def RowA (e : TypeId) (sz : Nat) (A : Option Addr) (n c : Nat) (xs : List Value) : Asn := fun h =>
  xs.length = n * sz ∧ ((A = none ∧ n = 0 ∧ c = 0) ∨ ∃ g cur, A = some ⟨g, 0, none⟩ ∧ h g = some (.cells cur e (0, 0)) ∧ n ≤ c ∧ c ≤ maxLen ∧ c * sz ≤ cur.size ∧ cur.toList.take (n * sz) = xs)

section
variable {W w : World} {e : TypeId} {sz n c : Nat} {A : Option Addr} {xs : List Value} {Rs : List Asn}

theorem row_nil (h : Inv W w Rs) (e : TypeId) (sz : Nat) : Inv W w (RowA e sz none 0 0 [] :: Rs) :=
  h.emp ⟨by simp, .inl ⟨rfl, rfl, rfl⟩⟩

/-- It is nil, or it is a block. -/
theorem row_cases (h : Inv W w (RowA e sz A n c xs :: Rs)) :
    xs.length = n * sz ∧ ((A = none ∧ n = 0 ∧ c = 0 ∧ xs = []) ∨ ∃ g cur, A = some ⟨g, 0, none⟩ ∧ n ≤ c ∧ c ≤ maxLen ∧ c * sz ≤ cur.size ∧ cur.toList.take (n * sz) = xs ∧ Inv W w (Blk g (.cells cur e (0, 0)) :: Rs)) := by
  obtain ⟨hb, k, ⟨hl, hc⟩, r⟩ := h
  refine ⟨hl, ?_⟩
  rcases hc with ⟨h1, h2, h3⟩ | ⟨g, cur, h1, h2, h3, h4, h5, h6⟩
  · exact .inl ⟨h1, h2, h3, List.eq_nil_of_length_eq_zero (by rw [hl, h2]; simp)⟩
  · exact .inr ⟨g, cur, h1, h3, h4, h5, h6, hb, k, h2, r⟩
theorem row_mk {g : Nat} {cur : Array Value} (h : Inv W w (Blk g (.cells cur e (0, 0)) :: Rs)) (hnc : n ≤ c) (hcm : c ≤ maxLen) (hcs : c * sz ≤ cur.size) (ht : cur.toList.take (n * sz) = xs) : Inv W w (RowA e sz (some ⟨g, 0, none⟩) n c xs :: Rs) := by
  refine h.imp fun k hk => ⟨?_, .inr ⟨g, cur, rfl, hk, hnc, hcm, hcs, ht⟩⟩
  have := Nat.mul_le_mul_right sz hnc
  rw [← ht, List.length_take, Array.length_toList]
  omega
theorem row_len (h : Inv W w (RowA e sz A n c xs :: Rs)) : xs.length = n * sz ∧ n ≤ c ∧ c ≤ maxLen := by
  obtain ⟨h1, (⟨_, h2, h3, _⟩ | ⟨g, cur, _, h2, h3, _⟩)⟩ := row_cases h
  · exact ⟨h1, by omega, by omega⟩
  · exact ⟨h1, h2, h3⟩
/-- Where it has a cell, it is a block, and that cell is read. -/
theorem row_cell (h : Inv W w (RowA e sz A n c xs :: Rs)) {j : Nat} {u : Value} (hj : xs[j]? = some u) : ∃ g, A = some ⟨g, 0, none⟩ ∧ w.cell? ⟨g, j, none⟩ = some u := by
  obtain ⟨h1, (⟨_, _, _, h4⟩ | ⟨g, cur, h1, h2, h3, h4, h5, h6⟩)⟩ := row_cases h
  · rw [h4] at hj; cases hj
  · refine ⟨g, h1, h6.cell ?_⟩
    rw [← h5, List.getElem?_take] at hj
    split at hj
    · simpa using hj
    · cases hj
theorem row_at (h : Inv W w (RowA e sz A n c xs :: Rs)) (h0 : 0 < n) : ∃ g, A = some ⟨g, 0, none⟩ ∧ (∀ j u, xs[j]? = some u → w.cell? ⟨g, j, none⟩ = some u) ∧ (∀ j, w.frozen? ⟨g, j, none⟩ = false) := by
  obtain ⟨h1, (⟨_, h2, _, _⟩ | ⟨g, cur, h1, h2, h3, h4, h5, h6⟩)⟩ := row_cases h
  · omega
  · refine ⟨g, h1, fun j u hj => ?_, fun j => h6.frozen⟩
    refine h6.cell ?_
    rw [← h5, List.getElem?_take] at hj
    split at hj
    · simpa using hj
    · cases hj
theorem row_set {g : Nat} (h : Inv W w (RowA e sz (some ⟨g, 0, none⟩) n c xs :: Rs)) (j : Nat) (hj : j < xs.length) (u : Value) : Inv W (w.setCell ⟨g, j, none⟩ u) (RowA e sz (some ⟨g, 0, none⟩) n c (xs.set j u) :: Rs) := by
  obtain ⟨h1, (⟨h2, _⟩ | ⟨g', cur, h2, h3, h4, h5, h6, h7⟩)⟩ := row_cases h
  · cases h2
  · cases h2
    refine row_mk (h7.setCell (off := j) u) h3 h4 (by simpa using h5) ?_
    rw [Array.toList_setIfInBounds, ← h6, List.take_set]
/-- 's[:k]'. -/
theorem row_take {k : Nat} (h : Inv W w (RowA e sz A n c xs :: Rs)) (hk : k ≤ n) : Inv W w (RowA e sz A k c (xs.take (k * sz)) :: Rs) := by
  obtain ⟨h1, (⟨rfl, rfl, rfl, rfl⟩ | ⟨g, cur, rfl, h3, h4, h5, h6, h7⟩)⟩ := row_cases h
  · obtain rfl : k = 0 := by omega
    simpa using h
  · refine row_mk h7 (by omega) h4 h5 ?_
    rw [← h6, List.take_take, Nat.min_eq_left (Nat.mul_le_mul_right _ hk)]
/-- 's[:k:m]'. -/
theorem row_clip {k m : Nat} (h : Inv W w (RowA e sz A n c xs :: Rs)) (hk : k ≤ n) (hkm : k ≤ m) (hm : m ≤ c) : Inv W w (RowA e sz A k m (xs.take (k * sz)) :: Rs) := by
  obtain ⟨h1, (⟨rfl, rfl, rfl, rfl⟩ | ⟨g, cur, rfl, h3, h4, h5, h6, h7⟩)⟩ := row_cases h
  · obtain rfl : k = 0 := by omega
    obtain rfl : m = 0 := by omega
    simpa using h
  · refine row_mk h7 hkm (by omega) (Nat.le_trans (Nat.mul_le_mul_right _ hm) h5) ?_
    rw [← h6, List.take_take, Nat.min_eq_left (Nat.mul_le_mul_right _ hk)]

theorem add_plain0 (g j : Nat) : (⟨g, 0, none⟩ : Addr).add j = ⟨g, j, none⟩ := by unfold Addr.add; split <;> simp_all

theorem run_append_row {P : Program} (t ty : TypeId) (i : TypeInfo) (z : Value) (bytes : Nat) (ht : P.underlying t = some (.slice e)) (hi : P.info? e = some i) (hz : i.zero = some z)
    (hsize : i.size = sz) (hby : i.bytes = bytes) (hzs : z.cells.size = sz) (hsz : 0 < sz) (h : Inv W w (RowA e sz A n c xs :: Rs))
    (a : Addr) (m c' : Nat) (news : List Value) (hl : news.length = m * sz) (hnews : ∀ j u, news[j]? = some u → w.cell? (a.add j) = some u) (h1 : ∀ u ∈ news, u.oneCell' = true)
    (h63 : n + m ≤ maxLen) (hbytes : (n + m) * bytes ≤ 140737488355328) :
    ∃ A' c'' w', (Builtin.append_ #[t, t] ty #[.slice A n c, .slice (some a) m c']).run P w = .ok (.slice A' (n + m) c'') w' ∧ Inv W w' (RowA e sz A' (n + m) c'' (xs ++ news) :: Rs) := by
  subst hsize
  subst hby
  have hsmall : n + m ≤ 9223372036854775807 := by simp only [maxLen] at h63; omega
  have hlx := (row_len h).1
  have grown : ∀ old, (w.drew.alloc (.cells (xs.toArray ++ news.toArray ++ Builtin.zeroCells z.cells (grownCap w (n + m) old e - (n + m))) e)) = (w.drew.alloc (.cells (xs.toArray ++ news.toArray ++ Builtin.zeroCells z.cells (grownCap w (n + m) old e - (n + m))) e)) → Inv W (w.drew.alloc (.cells (xs.toArray ++ news.toArray ++ Builtin.zeroCells z.cells (grownCap w (n + m) old e - (n + m))) e)) (RowA e i.size (some ⟨w.heap.size, 0, none⟩) (n + m) (grownCap w (n + m) old e) (xs ++ news) :: Rs) := by
    intro old _
    refine row_mk (h.drop.drew.alloc _) (grownCap_ge w (n + m) old e) (grownCap_le_maxLen w (n + m) old e h63) ?_ ?_
    · have hge := grownCap_ge w (n + m) old e
      simp only [Array.size_append, List.size_toArray, size_zeroCells, hzs, hlx, hl, ← Nat.add_mul]
      exact Nat.mul_le_mul_right _ (by omega)
    · simp only [Array.toList_append, List.append_assoc]
      rw [← List.append_assoc]
      have : (n + m) * i.size = (xs ++ news).length := by rw [List.length_append, hlx, hl, Nat.add_mul]
      rw [this]
      exact List.take_left
  obtain ⟨_, (⟨rfl, rfl, rfl, rfl⟩ | ⟨g, cur, rfl, h3, h4, h5, h6, h7⟩)⟩ := row_cases h
  · by_cases hm : m = 0
    · subst hm
      have hn : news = [] := List.eq_nil_of_length_eq_zero (by simpa using hl)
      subst hn
      refine ⟨none, 0, w, ?_, h⟩
      simp [Builtin.append_, run_underlying ht, sizeOf, typeInfo, hi, Builtin.lenOf, Builtin.firstCells, loadCells, loadCellsFrom]
    · have hr := run_append_nil (P := P) w t ty e i z ht hi hz a m c' news hl hnews (by omega) (by omega) (by have hb := hbytes; simp only [Nat.zero_add] at hb; omega)
      have hgr := grown 0 rfl
      simp only [Nat.zero_add, List.nil_append, Array.empty_append] at hgr ⊢
      exact ⟨_, _, _, hr, hgr⟩
  · by_cases hroom : n + m ≤ c
    · have hle := Nat.mul_le_mul_right i.size hroom
      rw [Nat.add_mul] at hle
      have hfit : n * i.size + news.length ≤ cur.size := by rw [hl]; omega
      have hr := run_append_room (P := P) w t ty e i ht hi g n c cur h7.heap a m c' news hl hnews h1 hroom hfit
      refine ⟨_, _, _, hr, row_mk (h7.turn rfl rfl rfl (by simp) (setRow_heap w g cur _ e _ h7.heap) (fun k _ hk => setRow_other w g k _ hk)) hroom h4 ?_ ?_⟩
      · simp only [List.size_toArray, List.length_append, List.length_take, List.length_drop, Array.length_toList]
        omega
      · rw [h6]
        have : (n + m) * i.size = (xs ++ news).length := by rw [List.length_append, hlx, hl, Nat.add_mul]
        rw [this]
        exact List.take_left
    · have holds : ∀ j u, xs[j]? = some u → w.cell? ((⟨g, 0, none⟩ : Addr).add j) = some u := fun j u hu => by
        rw [add_plain0]
        obtain ⟨g', hg', hc⟩ := row_cell h hu
        cases hg'
        exact hc
      have hr := run_append_grow (P := P) w t ty e i z ht hi hz ⟨g, 0, none⟩ n c xs hlx holds a m c' news hl hnews (by omega) (by omega) (growslice_fits (by omega) hbytes)
      exact ⟨_, _, _, hr, grown c rfl⟩

theorem wpList_append_row {P : Program} {ops : Array Oper} {rest : List Oper} {o : Oper} {a : Act} {Q : Exit → Act → World → Prop} (hgd : o.guard = none) (s x : Operand) (t : TypeId)
    (ho : o.op = .call { callee := .builtin .append, args := #[s, x], argTypes := #[t, t] })
    (i : TypeInfo) (z : Value) (bytes : Nat) (ht : P.underlying t = some (.slice e)) (hi : P.info? e = some i) (hz : i.zero = some z) (hsize : i.size = sz) (hby : i.bytes = bytes) (hzs : z.cells.size = sz) (hsz : 0 < sz)
    (hs : a.eval s = .slice A n c) (h : Inv W w (RowA e sz A n c xs :: Rs))
    (ad : Addr) (m c' : Nat) (news : List Value) (hx : a.eval x = .slice (some ad) m c') (hl : news.length = m * sz) (hnews : ∀ j u, news[j]? = some u → w.cell? (ad.add j) = some u) (h1 : ∀ u ∈ news, u.oneCell' = true)
    (h63 : n + m ≤ maxLen) (hbytes : (n + m) * bytes ≤ 140737488355328)
    (hk : ∀ A' c'' w', Inv W w' (RowA e sz A' (n + m) c'' (xs ++ news) :: Rs) → wpList P ops Q rest (a.put o.dst (.slice A' (n + m) c'')) w') : wpList P ops Q (o :: rest) a w :=
  wpList_plain hgd fun K hK => by
    obtain ⟨A', c'', w', hr, h2⟩ := run_append_row (P := P) t o.type i z bytes ht hi hz hsize hby hzs hsz h ad m c' news hl hnews h1 h63 hbytes
    unfold Oper.wp execOp
    simp only [ho, resolve, invoke, builtin, Sem.run_bind, Sem.run_pure, Result.andThen_ok, List.map_toArray, List.map_cons, List.map_nil, hs, hx, hr]
    exact hK _ _ (hk A' c'' w' h2)

theorem wpListIn_append_row {F : Fence} {fn : Nat} {P : Program} {ops : Array Oper} {rest : List Oper} {o : Oper} {a : Act} {Q : Exit → Act → World → Prop} (hgd : o.guard = none) (s x : Operand) (t : TypeId)
    (ho : o.op = .call { callee := .builtin .append, args := #[s, x], argTypes := #[t, t] })
    (i : TypeInfo) (z : Value) (bytes : Nat) (ht : P.underlying t = some (.slice e)) (hi : P.info? e = some i) (hz : i.zero = some z) (hsize : i.size = sz) (hby : i.bytes = bytes) (hzs : z.cells.size = sz) (hsz : 0 < sz)
    (hs : a.eval s = .slice A n c) (h : Inv W w (RowA e sz A n c xs :: Rs))
    (ad : Addr) (m c' : Nat) (news : List Value) (hx : a.eval x = .slice (some ad) m c') (hl : news.length = m * sz) (hnews : ∀ j u, news[j]? = some u → w.cell? (ad.add j) = some u) (h1 : ∀ u ∈ news, u.oneCell' = true)
    (h63 : n + m ≤ maxLen) (hbytes : (n + m) * bytes ≤ 140737488355328)
    (hk : ∀ A' c'' w', Inv W w' (RowA e sz A' (n + m) c'' (xs ++ news) :: Rs) → wpListIn F fn P ops Q rest (a.put o.dst (.slice A' (n + m) c'')) w') : wpListIn F fn P ops Q (o :: rest) a w := by
  refine wpListIn_plain hgd fun K hK' => ?_
  obtain ⟨A', c'', w', hrun, r1⟩ := run_append_row (P := P) t o.type i z bytes ht hi hz hsize hby hzs hsz h ad m c' news hl hnews h1 h63 hbytes
  unfold Oper.wpIn
  refine ⟨?_, ?_⟩
  · simp [Oper.about, ho, resolve, Target.leads, Sem.run_pure]
  · rw [Oper.semAt_plain F _ _ (by rw [ho]; intro c hc'; cases hc')]
    simp [execOp, ho, resolve, invoke, builtin, hs, hx, hrun, Result.andThen]
    exact hK' _ _ (hk A' c'' w' r1)
end

theorem new_one (w : World) (x : Value) (t : TypeId) : ∀ j u, [x][j]? = some u → (w.alloc (.cells #[x] t)).cell? ((⟨w.heap.size, 0, none⟩ : Addr).add j) = some u := by
  intro j u hj
  rw [add_plain0]
  have := (Inv.refl w).alloc (.cells #[x] t)
  exact this.cell (by simpa using hj)
theorem one_one {x : Value} (h : x.oneCell' = true) : ∀ u ∈ [x], u.oneCell' = true := by
  intro u hu
  simp at hu
  subst hu
  exact h
theorem len_ok {k : Nat} (h : k ≤ 1099511627776) : k ≤ maxLen := by simp only [maxLen]; omega

/-- A variable in a block of its own, holding a slice of the call's own. -/
def BoxRow (b : Nat) (t e : TypeId) (sz n : Nat) (xs : List Value) : Asn := fun h => ∃ A c, Lst [Blk b (.cells #[.slice A n c] t (0, 0)), RowA e sz A n c xs] h
theorem boxrow_open {W w : World} {b n sz : Nat} {t e : TypeId} {xs : List Value} {Rs : List Asn} (h : Inv W w (BoxRow b t e sz n xs :: Rs)) :
    ∃ A c, Inv W w (Blk b (.cells #[.slice A n c] t (0, 0)) :: RowA e sz A n c xs :: Rs) := by
  obtain ⟨A, h⟩ := h.ex
  obtain ⟨c, h⟩ := h.ex
  exact ⟨A, c, h.split⟩
theorem boxrow_shut {W w : World} {b n sz : Nat} {t e : TypeId} {xs : List Value} {A : Option Addr} {c : Nat} {Rs : List Asn} (h : Inv W w (Blk b (.cells #[.slice A n c] t (0, 0)) :: RowA e sz A n c xs :: Rs)) : Inv W w (BoxRow b t e sz n xs :: Rs) :=
  Inv.ex_mk A (Inv.ex_mk c (Inv.joined (L := [_, _]) h))
end Go.Proofs.Ytfackochjlccpaa
