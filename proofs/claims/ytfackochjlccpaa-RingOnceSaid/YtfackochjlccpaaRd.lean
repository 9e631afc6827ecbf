/- Slices that are read: what their cells hold, and an append of such a one. No program in sight. -/
import Derived.Test.YtfackochjlccpaaRow
namespace Go.Proofs.Ytfackochjlccpaa
open Go Go.RowKit
set_option linter.unusedVariables false
set_option linter.unusedSimpArgs false
namespace Inv
variable {W w : World} {A0 A1 A2 A3 A4 A5 A6 A7 A8 A9 A10 A11 A12 : Asn} {Rs : List Asn}
theorem pull7 (h : Inv W w (A1 :: A2 :: A3 :: A4 :: A5 :: A6 :: A7 :: A0 :: Rs)) : Inv W w (A0 :: A1 :: A2 :: A3 :: A4 :: A5 :: A6 :: A7 :: Rs) := app [A1, A2, A3, A4, A5, A6, A7] h
theorem pull8 (h : Inv W w (A1 :: A2 :: A3 :: A4 :: A5 :: A6 :: A7 :: A8 :: A0 :: Rs)) : Inv W w (A0 :: A1 :: A2 :: A3 :: A4 :: A5 :: A6 :: A7 :: A8 :: Rs) := app [A1, A2, A3, A4, A5, A6, A7, A8] h
theorem pull9 (h : Inv W w (A1 :: A2 :: A3 :: A4 :: A5 :: A6 :: A7 :: A8 :: A9 :: A0 :: Rs)) : Inv W w (A0 :: A1 :: A2 :: A3 :: A4 :: A5 :: A6 :: A7 :: A8 :: A9 :: Rs) := app [A1, A2, A3, A4, A5, A6, A7, A8, A9] h
theorem pull10 (h : Inv W w (A1 :: A2 :: A3 :: A4 :: A5 :: A6 :: A7 :: A8 :: A9 :: A10 :: A0 :: Rs)) : Inv W w (A0 :: A1 :: A2 :: A3 :: A4 :: A5 :: A6 :: A7 :: A8 :: A9 :: A10 :: Rs) := app [A1, A2, A3, A4, A5, A6, A7, A8, A9, A10] h
theorem pull11 (h : Inv W w (A1 :: A2 :: A3 :: A4 :: A5 :: A6 :: A7 :: A8 :: A9 :: A10 :: A11 :: A0 :: Rs)) : Inv W w (A0 :: A1 :: A2 :: A3 :: A4 :: A5 :: A6 :: A7 :: A8 :: A9 :: A10 :: A11 :: Rs) := app [A1, A2, A3, A4, A5, A6, A7, A8, A9, A10, A11] h
theorem pull12 (h : Inv W w (A1 :: A2 :: A3 :: A4 :: A5 :: A6 :: A7 :: A8 :: A9 :: A10 :: A11 :: A12 :: A0 :: Rs)) : Inv W w (A0 :: A1 :: A2 :: A3 :: A4 :: A5 :: A6 :: A7 :: A8 :: A9 :: A10 :: A11 :: A12 :: Rs) := app [A1, A2, A3, A4, A5, A6, A7, A8, A9, A10, A11, A12] h
theorem push6 (h : Inv W w (A0 :: A1 :: A2 :: A3 :: A4 :: A5 :: A6 :: Rs)) : Inv W w (A1 :: A2 :: A3 :: A4 :: A5 :: A6 :: A0 :: Rs) := unapp [A1, A2, A3, A4, A5, A6] h
theorem push7 (h : Inv W w (A0 :: A1 :: A2 :: A3 :: A4 :: A5 :: A6 :: A7 :: Rs)) : Inv W w (A1 :: A2 :: A3 :: A4 :: A5 :: A6 :: A7 :: A0 :: Rs) := unapp [A1, A2, A3, A4, A5, A6, A7] h
theorem push8 (h : Inv W w (A0 :: A1 :: A2 :: A3 :: A4 :: A5 :: A6 :: A7 :: A8 :: Rs)) : Inv W w (A1 :: A2 :: A3 :: A4 :: A5 :: A6 :: A7 :: A8 :: A0 :: Rs) := unapp [A1, A2, A3, A4, A5, A6, A7, A8] h
theorem push9 (h : Inv W w (A0 :: A1 :: A2 :: A3 :: A4 :: A5 :: A6 :: A7 :: A8 :: A9 :: Rs)) : Inv W w (A1 :: A2 :: A3 :: A4 :: A5 :: A6 :: A7 :: A8 :: A9 :: A0 :: Rs) := unapp [A1, A2, A3, A4, A5, A6, A7, A8, A9] h
theorem push10 (h : Inv W w (A0 :: A1 :: A2 :: A3 :: A4 :: A5 :: A6 :: A7 :: A8 :: A9 :: A10 :: Rs)) : Inv W w (A1 :: A2 :: A3 :: A4 :: A5 :: A6 :: A7 :: A8 :: A9 :: A10 :: A0 :: Rs) := unapp [A1, A2, A3, A4, A5, A6, A7, A8, A9, A10] h
theorem push11 (h : Inv W w (A0 :: A1 :: A2 :: A3 :: A4 :: A5 :: A6 :: A7 :: A8 :: A9 :: A10 :: A11 :: Rs)) : Inv W w (A1 :: A2 :: A3 :: A4 :: A5 :: A6 :: A7 :: A8 :: A9 :: A10 :: A11 :: A0 :: Rs) := unapp [A1, A2, A3, A4, A5, A6, A7, A8, A9, A10, A11] h
theorem push12 (h : Inv W w (A0 :: A1 :: A2 :: A3 :: A4 :: A5 :: A6 :: A7 :: A8 :: A9 :: A10 :: A11 :: A12 :: Rs)) : Inv W w (A1 :: A2 :: A3 :: A4 :: A5 :: A6 :: A7 :: A8 :: A9 :: A10 :: A11 :: A12 :: A0 :: Rs) := unapp [A1, A2, A3, A4, A5, A6, A7, A8, A9, A10, A11, A12] h
end Inv
/-- A slice of n elements of sz cells each, to be read: its cells are cs. -/
def Rd (w : World) (sz : Nat) (A : Option Addr) (n : Nat) (cs : List Value) : Prop :=
  cs.length = n * sz ∧ (n ≠ 0 → ∃ ad, A = some ad ∧ ∀ j u, cs[j]? = some u → w.cell? (ad.add j) = some u)
section
variable {W w w' : World} {e sz n m c c' : Nat} {A B : Option Addr} {xs cs : List Value} {Rs : List Asn}
theorem Rd.of (h : Rd w sz A n cs) (hb : Below w.heap.size w w') : Rd w' sz A n cs :=
  ⟨h.1, fun h0 => by obtain ⟨ad, e, hc⟩ := h.2 h0; exact ⟨ad, e, fun j x hj => (hb.cell (World.block_lt_of_cell? _ _ (hc j x hj))).trans (hc j x hj)⟩⟩
theorem Rd.old (h : Rd W sz A n cs) (hI : Inv W w Rs) : Rd w sz A n cs := h.of hI.below
theorem Rd.nil (w : World) (sz : Nat) (A : Option Addr) : Rd w sz A 0 [] := ⟨by simp, fun h => absurd rfl h⟩
theorem row_rd (h : Inv W w (RowA e sz A n c xs :: Rs)) (h0 : 0 < sz) : Rd w sz A n xs :=
  ⟨(row_len h).1, fun hn => by
    obtain ⟨g, hA, hc, _⟩ := row_at h (by omega)
    exact ⟨_, hA, fun j x hj => by rw [add_plain0]; exact hc j _ hj⟩⟩
theorem blk_rd {g : Nat} {t : TypeId} {fz : Nat × Nat} {cur : Array Value} (h : Inv W w (Blk g (.cells cur t fz) :: Rs)) (hl : cs.length = n * sz) (hc : ∀ (j : Nat) (x : Value), cs[j]? = some x → cur[j]? = some x) : Rd w sz (some ⟨g, 0, none⟩) n cs :=
  ⟨hl, fun _ => ⟨_, rfl, fun j x hj => by rw [add_plain0]; exact h.cell (hc j x hj)⟩⟩
theorem Rd.take (h : Rd w sz A n cs) {k : Nat} (hk : k ≤ n) : Rd w sz A k (cs.take (k * sz)) :=
  ⟨by rw [List.length_take, h.1]; exact Nat.min_eq_left (Nat.mul_le_mul_right _ hk), fun h0 => by
    obtain ⟨ad, e, hc⟩ := h.2 (by omega)
    exact ⟨ad, e, fun j x hj => hc j x (by rw [List.getElem?_take] at hj; split at hj; exact hj; cases hj)⟩⟩

theorem run_append_rd {P : Program} (t ty : TypeId) (i : TypeInfo) (z : Value) (bytes : Nat) (ht : P.underlying t = some (.slice e)) (hi : P.info? e = some i) (hz : i.zero = some z)
    (hsize : i.size = sz) (hby : i.bytes = bytes) (hzs : z.cells.size = sz) (hsz : 0 < sz) (h : Inv W w (RowA e sz A n c xs :: Rs))
    (hr : Rd w sz B m cs) (h1 : ∀ u ∈ cs, u.oneCell' = true) (h63 : n + m ≤ maxLen) (hbytes : (n + m) * bytes ≤ 140737488355328) :
    ∃ A' c'' w', (Builtin.append_ #[t, t] ty #[.slice A n c, .slice B m c']).run P w = .ok (.slice A' (n + m) c'') w' ∧ Inv W w' (RowA e sz A' (n + m) c'' (xs ++ cs) :: Rs) := by
  cases B with
  | some ad =>
    by_cases hm : m = 0
    · subst hm
      have hn : cs = [] := List.eq_nil_of_length_eq_zero (by simpa using hr.1)
      subst hn
      exact run_append_row t ty i z bytes ht hi hz hsize hby hzs hsz h ad 0 c' [] (by simp) (fun j u hj => by simp at hj) h1 h63 hbytes
    · obtain ⟨ad', e', hc⟩ := hr.2 hm
      cases e'
      exact run_append_row t ty i z bytes ht hi hz hsize hby hzs hsz h ad m c' cs hr.1 hc h1 h63 hbytes
  | none =>
    have hm : m = 0 := by
      refine Classical.byContradiction fun hm => ?_
      obtain ⟨ad', e', _⟩ := hr.2 hm
      cases e'
    subst hm
    have hn : cs = [] := List.eq_nil_of_length_eq_zero (by simpa using hr.1)
    subst hn
    refine ⟨A, c, w, ?_, by simpa using h⟩
    obtain ⟨_, (⟨rfl, rfl, rfl, rfl⟩ | ⟨g, cur, rfl, h3, h4, h5, h6, h7⟩)⟩ := row_cases h
    · simp [Builtin.append_, run_underlying ht, sizeOf, typeInfo, hi, Builtin.lenOf, Builtin.firstCells, loadCells, loadCellsFrom]
    · simp [Builtin.append_, run_underlying ht, sizeOf, typeInfo, hi, Builtin.lenOf, Builtin.firstCells, loadCells, loadCellsFrom, h3, storeCells]

theorem wpList_append_rd {P : Program} {ops : Array Oper} {rest : List Oper} {o : Oper} {a : Act} {Q : Exit → Act → World → Prop} (hgd : o.guard = none) (s x : Operand) (t : TypeId)
    (ho : o.op = .call { callee := .builtin .append, args := #[s, x], argTypes := #[t, t] })
    (i : TypeInfo) (z : Value) (bytes : Nat) (ht : P.underlying t = some (.slice e)) (hi : P.info? e = some i) (hz : i.zero = some z) (hsize : i.size = sz) (hby : i.bytes = bytes) (hzs : z.cells.size = sz) (hsz : 0 < sz)
    (hs : a.eval s = .slice A n c) (h : Inv W w (RowA e sz A n c xs :: Rs))
    (hx : a.eval x = .slice B m c') (hr : Rd w sz B m cs) (h1 : ∀ u ∈ cs, u.oneCell' = true)
    (h63 : n + m ≤ maxLen) (hbytes : (n + m) * bytes ≤ 140737488355328)
    (hk : ∀ A' c'' w', Inv W w' (RowA e sz A' (n + m) c'' (xs ++ cs) :: Rs) → wpList P ops Q rest (a.put o.dst (.slice A' (n + m) c'')) w') : wpList P ops Q (o :: rest) a w :=
  wpList_plain hgd fun K hK => by
    obtain ⟨A', c'', w', hr, h2⟩ := run_append_rd (P := P) (c' := c') t o.type i z bytes ht hi hz hsize hby hzs hsz h hr h1 h63 hbytes
    unfold Oper.wp execOp
    simp only [ho, resolve, invoke, builtin, Sem.run_bind, Sem.run_pure, Result.andThen_ok, List.map_toArray, List.map_cons, List.map_nil, hs, hx, hr]
    exact hK _ _ (hk A' c'' w' h2)

theorem wpListIn_append_rd {F : Fence} {fn : Nat} {P : Program} {ops : Array Oper} {rest : List Oper} {o : Oper} {a : Act} {Q : Exit → Act → World → Prop} (hgd : o.guard = none) (s x : Operand) (t : TypeId)
    (ho : o.op = .call { callee := .builtin .append, args := #[s, x], argTypes := #[t, t] })
    (i : TypeInfo) (z : Value) (bytes : Nat) (ht : P.underlying t = some (.slice e)) (hi : P.info? e = some i) (hz : i.zero = some z) (hsize : i.size = sz) (hby : i.bytes = bytes) (hzs : z.cells.size = sz) (hsz : 0 < sz)
    (hs : a.eval s = .slice A n c) (h : Inv W w (RowA e sz A n c xs :: Rs))
    (hx : a.eval x = .slice B m c') (hr : Rd w sz B m cs) (h1 : ∀ u ∈ cs, u.oneCell' = true)
    (h63 : n + m ≤ maxLen) (hbytes : (n + m) * bytes ≤ 140737488355328)
    (hk : ∀ A' c'' w', Inv W w' (RowA e sz A' (n + m) c'' (xs ++ cs) :: Rs) → wpListIn F fn P ops Q rest (a.put o.dst (.slice A' (n + m) c'')) w') : wpListIn F fn P ops Q (o :: rest) a w := by
  refine wpListIn_plain hgd fun K hK' => ?_
  obtain ⟨A', c'', w', hrun, r1⟩ := run_append_rd (P := P) (c' := c') t o.type i z bytes ht hi hz hsize hby hzs hsz h hr h1 h63 hbytes
  unfold Oper.wpIn
  refine ⟨?_, ?_⟩
  · simp [Oper.about, ho, resolve, Target.leads, Sem.run_pure]
  · rw [Oper.semAt_plain F _ _ (by rw [ho]; intro c hc'; cases hc')]
    simp [execOp, ho, resolve, invoke, builtin, hs, hx, hrun, Result.andThen]
    exact hK' _ _ (hk A' c'' w' r1)
end

/-- A slice of ints, to be read. -/
def ints (l : List Int) : List Value := l.map (Value.int .i64)
theorem ints_snoc (l : List Int) (x : Int) : ints (l ++ [x]) = ints l ++ [.int .i64 x] := by simp [ints]
theorem ints_append (l m : List Int) : ints (l ++ m) = ints l ++ ints m := by simp [ints]
theorem ints_len (l : List Int) : (ints l).length = l.length := by simp [ints]
theorem ints_take (l : List Int) (n : Nat) : (ints l).take (n * 1) = ints (l.take n) := by simp [ints, List.map_take]
theorem ints_set (l : List Int) (n : Nat) (x : Int) : (ints l).set n (.int .i64 x) = ints (l.set n x) := by simp [ints, List.map_set]
theorem ints_get {l : List Int} {j : Nat} {x : Int} (h : l[j]? = some x) : (ints l)[j]? = some (.int .i64 x) := by simp [ints, h]
theorem ints_one (l : List Int) : ∀ u ∈ ints l, u.oneCell' = true := by
  intro u hu
  simp [ints] at hu
  obtain ⟨x, _, rfl⟩ := hu
  rfl
def RdI (w : World) (A : Option Addr) (xs : List Int) : Prop := xs.length ≤ 140737488355328 ∧ (0 < xs.length → ∃ ad, A = some ad ∧ ∀ j x, xs[j]? = some x → w.cell? (ad.add j) = some (.int .i64 x))
theorem RdI.of {w w' : World} {A : Option Addr} {xs : List Int} (h : RdI w A xs) (hb : Below w.heap.size w w') : RdI w' A xs :=
  ⟨h.1, fun h0 => by obtain ⟨ad, e, hc⟩ := h.2 h0; exact ⟨ad, e, fun j x hj => (hb.cell (World.block_lt_of_cell? _ _ (hc j x hj))).trans (hc j x hj)⟩⟩
theorem RdI.old {W w : World} {Rs : List Asn} {A : Option Addr} {xs : List Int} (h : RdI W A xs) (hI : Inv W w Rs) : RdI w A xs := h.of hI.below
theorem RdI.rd {w : World} {A : Option Addr} {xs : List Int} (h : RdI w A xs) : Rd w 1 A xs.length (ints xs) :=
  ⟨by simp [ints], fun h0 => by
    obtain ⟨ad, e, hc⟩ := h.2 (by omega)
    exact ⟨ad, e, fun j u hj => by
      simp only [ints, List.getElem?_map, Option.map_eq_some_iff] at hj
      obtain ⟨x, hx, rfl⟩ := hj
      exact hc j x hx⟩⟩
theorem RdI.take {w : World} {A : Option Addr} {xs : List Int} (h : RdI w A xs) (k : Nat) : RdI w A (xs.take k) :=
  ⟨by have := h.1; simp; omega, fun h0 => by
    obtain ⟨ad, e, hc⟩ := h.2 (by simp at h0; omega)
    exact ⟨ad, e, fun j x hj => hc j x (by rw [List.getElem?_take] at hj; split at hj; exact hj; cases hj)⟩⟩
theorem row_rdi {W w : World} {e n c : Nat} {A : Option Addr} {xs : List Int} {Rs : List Asn} (h : Inv W w (RowA e 1 A n c (xs.map (Value.int .i64)) :: Rs)) (hb : xs.length ≤ 140737488355328) : RdI w A xs :=
  ⟨hb, fun h0 => by
    have hn := (row_len h).1
    simp at hn
    obtain ⟨g, hA, hc, _⟩ := row_at h (by omega)
    exact ⟨_, hA, fun j x hj => by rw [add_plain0]; exact hc j _ (by simp [hj])⟩⟩
theorem blk_rdi {W w : World} {g : Nat} {t : TypeId} {fz : Nat × Nat} {cs : Array Value} {xs : List Int} {Rs : List Asn} (h : Inv W w (Blk g (.cells cs t fz) :: Rs)) (hc : ∀ (j : Nat) (x : Int), xs[j]? = some x → cs[j]? = some (Value.int .i64 x)) (hb : xs.length ≤ 140737488355328) : RdI w (some ⟨g, 0, none⟩) xs :=
  ⟨hb, fun _ => ⟨_, rfl, fun j x hj => by rw [add_plain0]; exact h.cell (hc j x hj)⟩⟩
def RetB (w : World) (v : Value) (e : Ending) (w' : World) : Prop := e = .returned v ∧ Below w.heap.size w w'
theorem RetB.inv {W w w' : World} {v : Value} {e : Ending} {Rs : List Asn} (h : RetB w v e w') (hI : Inv W w Rs) : e = .returned v ∧ Inv W w' Rs := ⟨h.1, hI.grow h.2⟩
theorem below_drewN' (w : World) (n : Nat) : Below w.heap.size w (w.drewN n) := (Inv.refl w).drewN n |>.below
end Go.Proofs.Ytfackochjlccpaa
