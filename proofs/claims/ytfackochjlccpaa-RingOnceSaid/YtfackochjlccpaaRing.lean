/- The ring of the program (package ring): what each function does to a ring, said over a list of places from the head on. -/
import Derived.Test.YtfackochjlccpaaRd
import Derived.Test.YtfackochjlccpaaRows
namespace Go.Proofs.Ytfackochjlccpaa
open Go Go.RowKit
set_option linter.unusedVariables false
set_option linter.unusedSimpArgs false

/-- A ring: room, policy, head, the window's places. -/
structure RSt where
  n : Nat
  pol : Int
  h : Nat
  L : List (Int × Bool)
def RSt.t (s : RSt) : Nat := s.h + s.L.length
structure RSt.Ok (s : RSt) : Prop where
  n0 : 0 < s.n
  n1 : s.n ≤ 64
  len : s.L.length ≤ s.n
  tail : s.h + s.L.length ≤ 1099511627776

def RFit (s : RSt) (cs : Array Value) : Prop :=
  cs.size = 2 * s.n ∧ ∀ k p, s.L[k]? = some p → cs[(s.h + k) % s.n * 2]? = some (.int .i64 p.1) ∧ cs[(s.h + k) % s.n * 2 + 1]? = some (.bool p.2)

def ringHead (q : Nat) (s : RSt) : Array Value := #[.slice (some ⟨q, 0, none⟩) s.n s.n, .int .i64 s.pol, .int .i64 s.h, .int .i64 s.t]
/-- The piece: the ring's struct in block b, its places in a block of their own. -/
def RingA (b : Nat) (s : RSt) : Asn := fun h => ∃ q cs, (s.Ok ∧ RFit s cs) ∧ Lst [Blk b (.cells (ringHead q s) 55 (0, 0)), Blk q (.cells cs 61 (0, 0))] h

theorem ring_open {W w : World} {b : Nat} {s : RSt} {Rs : List Asn} (h : Inv W w (RingA b s :: Rs)) :
    ∃ q cs, s.Ok ∧ RFit s cs ∧ Inv W w (Blk b (.cells (ringHead q s) 55 (0, 0)) :: Blk q (.cells cs 61 (0, 0)) :: Rs) := by
  obtain ⟨q, h⟩ := h.ex
  obtain ⟨cs, h⟩ := h.ex
  obtain ⟨⟨h1, h2⟩, h⟩ := h.pure
  exact ⟨q, cs, h1, h2, h.split⟩
theorem ring_shut {W w : World} {b q : Nat} {cs : Array Value} {s : RSt} {Rs : List Asn} (h1 : s.Ok) (h2 : RFit s cs)
    (h : Inv W w (Blk b (.cells (ringHead q s) 55 (0, 0)) :: Blk q (.cells cs 61 (0, 0)) :: Rs)) : Inv W w (RingA b s :: Rs) :=
  Inv.ex_mk q (Inv.ex_mk cs (Inv.pure_mk ⟨h1, h2⟩ (Inv.joined (L := [_, _]) h)))

set_option maxHeartbeats 400000 in
theorem is_nil (w : World) : Calls Try.prog 30 #[.pointer none] w fun e w' => e = .returned (.bool false) ∧ w = w' := by
  go_enter Try.func30, Try.ntmps30
  go_wp2
  go_ret
  exact ⟨rfl, rfl⟩
set_option maxHeartbeats 400000 in
theorem is_zero (b : Nat) (w : World) (h0 : w.cell? ⟨b, 0, none⟩ = some (.slice none 0 0)) :
    Calls Try.prog 30 #[.pointer (some ⟨b, 0, none⟩)] w fun e w' => e = .returned (.bool false) ∧ w = w' := by
  go_enter Try.func30, Try.ntmps30
  go_wp2
  go_ret
  exact ⟨rfl, rfl⟩
set_option maxHeartbeats 400000 in
theorem is_some (b : Nat) (A : Option Addr) (n c : Nat) (hn : 0 < n) (w : World) (h0 : w.cell? ⟨b, 0, none⟩ = some (.slice A n c)) :
    Calls Try.prog 30 #[.pointer (some ⟨b, 0, none⟩)] w fun e w' => e = .returned (.bool true) ∧ w = w' := by
  go_enter Try.func30, Try.ntmps30
  go_wp2
  go_ret
  exact ⟨rfl, rfl⟩

set_option maxHeartbeats 400000 in
theorem at_any (b q n c k : Nat) (hn : 0 < n) (hm : n ≤ 64) (hk2 : k ≤ 1099511627776) (w : World) (h0 : w.cell? ⟨b, 0, none⟩ = some (.slice (some ⟨q, 0, none⟩) n c)) :
    Calls Try.prog 31 #[.pointer (some ⟨b, 0, none⟩), .int .i64 k] w fun e w' => e = .returned (.pointer (some ⟨q, k % n * 2, none⟩)) ∧ ∃ m, w' = w.drewN m := by
  have hr1 : k % n < n := Nat.mod_lt _ hn
  have hn0 : n ≠ 0 := by omega
  go_enter Try.func31, Try.ntmps31
  go_wp2
  go_quiet (fail)
  go_wp2
  go_ret
  exact ⟨rfl, _, rfl⟩

/-- What a claim answers, and the ring behind it. -/
def RSt.claim (s : RSt) (ref : Int) : (Int × Int × Int) × RSt :=
  if ref < 1 then ((0, 0, 2), s)
  else if 1099511627776 ≤ s.h + s.L.length then ((0, 0, 4), s)
  else if s.L.length = s.n then
    match s.L with
    | [] => ((0, 0, 60), s)
    | p :: L => if s.pol = 0 ∨ p.2 = false then ((0, 0, 60), s) else ((s.h + s.L.length, p.1, 0), { s with h := s.h + 1, L := L ++ [(ref, false)] })
  else ((s.h + s.L.length, 0, 0), { s with L := s.L ++ [(ref, false)] })

def tri (p : Int × Int × Int) : Value := .tuple #[.int .i64 p.1, .int .i64 p.2.1, .int .i64 p.2.2]
def duo (p : Int × Int) : Value := .tuple #[.int .i64 p.1, .int .i64 p.2]
/-- It returned v, and the pieces lie so. -/
def Ret (W : World) (v : Value) (Rs : List Asn) (e : Ending) (w' : World) : Prop := e = .returned v ∧ Inv W w' Rs

theorem fit_snoc {s : RSt} {cs : Array Value} {ref : Int} (ok : s.Ok) (hl : s.L.length < s.n) (h : RFit s cs) :
    RFit { s with L := s.L ++ [(ref, false)] } ((cs.setIfInBounds ((s.h + s.L.length) % s.n * 2) (.int .i64 ref)).setIfInBounds ((s.h + s.L.length) % s.n * 2 + 1) (.bool false)) := by
  have n0 := ok.n0
  have hm : (s.h + s.L.length) % s.n < s.n := Nat.mod_lt _ n0
  refine ⟨by simp [h.1], fun k p hk => ?_⟩
  simp only at hk ⊢
  rw [List.getElem?_append] at hk
  split at hk
  · rename_i hlt
    have hne : (s.h + k) % s.n ≠ (s.h + s.L.length) % s.n := by
      intro he
      have h1 := Nat.div_add_mod (s.h + k) s.n
      have h2 := Nat.div_add_mod (s.h + s.L.length) s.n
      rw [he] at h1
      have h3 : s.n * ((s.h + s.L.length) / s.n) - s.n * ((s.h + k) / s.n) = s.L.length - k := by omega
      rw [← Nat.mul_sub] at h3
      rcases Nat.eq_zero_or_pos ((s.h + s.L.length) / s.n - (s.h + k) / s.n) with h4 | h4
      · rw [h4] at h3; omega
      · have := Nat.le_mul_of_pos_right s.n h4
        omega
    obtain ⟨h1, h2⟩ := h.2 k p hk
    simp only [Array.getElem?_setIfInBounds]
    rw [if_neg (by omega), if_neg (by omega), if_neg (by omega), if_neg (by omega)]
    exact ⟨h1, h2⟩
  · rename_i hge
    have hk0 : k = s.L.length := by
      have := List.getElem?_eq_some_iff.1 hk
      obtain ⟨h1, _⟩ := this
      simp at h1
      omega
    subst hk0
    simp at hk
    subst hk
    simp only [Array.getElem?_setIfInBounds, Array.size_setIfInBounds, h.1]
    constructor
    · rw [if_neg (by omega), if_pos trivial, if_pos (by omega)]
    · rw [if_pos trivial, if_pos (by omega)]

set_option maxHeartbeats 200000 in
set_option maxRecDepth 100000 in
theorem claim_room {W w : World} {b : Nat} {s : RSt} {Rs : List Asn} (h : Inv W w (RingA b s :: Rs)) (ref : Int) (h1 : 1 ≤ ref) (h2 : s.t < 1099511627776) (h3 : s.L.length < s.n) :
    Calls Try.prog 12 #[.pointer (some ⟨b, 0, none⟩), .int .i64 ref] w (Ret W (tri (s.t, 0, 0)) (RingA b { s with L := s.L ++ [(ref, false)] } :: Rs)) := by
  obtain ⟨q, cs, ok, fit, hI⟩ := ring_open h
  have n0 := ok.n0
  have n1 := ok.n1
  have htl : s.t = s.h + s.L.length := rfl
  have hm : s.t % s.n < s.n := Nat.mod_lt _ n0
  have hne := hI.ne
  have c0 := hI.cell (off := 0) (v := .slice (some ⟨q, 0, none⟩) s.n s.n) rfl
  have c1 := hI.cell (off := 1) (v := .int .i64 s.pol) rfl
  have c2 := hI.cell (off := 2) (v := .int .i64 s.h) rfl
  have c3 := hI.cell (off := 3) (v := .int .i64 s.t) rfl
  have f3 := hI.frozen (off := 3)
  obtain ⟨x0, q0⟩ := hI.pull1.here (off := s.t % s.n * 2) (by rw [fit.1]; omega)
  obtain ⟨x1, q1⟩ := hI.pull1.here (off := s.t % s.n * 2 + 1) (by rw [fit.1]; omega)
  have fq0 := hI.pull1.frozen (off := s.t % s.n * 2)
  have fq1 := hI.pull1.frozen (off := s.t % s.n * 2 + 1)
  have fin := fun (k m : Nat) => ring_shut (b := b) (q := q) (s := { s with L := s.L ++ [(ref, false)] }) ⟨n0, n1, by simp; omega, by simp; omega⟩ (fit_snoc ok h3 fit) (by
    have e : ringHead q { s with L := s.L ++ [(ref, false)] } = (ringHead q s).setIfInBounds 3 (.int .i64 ((s.t : Int) + 1)) := by simp [ringHead, RSt.t]; omega
    rw [e]
    exact ((((hI.drewN k).drewN m).pull1.setCell (off := s.t % s.n * 2) (.int .i64 ref)).setCell (off := s.t % s.n * 2 + 1) (.bool false)).pull1.setCell (off := 3) (.int .i64 ((s.t : Int) + 1)))
  have hE : ((s.t : Int) - (s.h : Int) == (s.n : Int)) = false := by rw [beq_eq_false_iff_ne]; omega
  have hB : decide ((1099511627776:Int) ≤ (s.t : Int)) = false := by rw [decide_eq_false_iff_not]; omega
  have hht : s.h ≤ s.t := by omega
  have hT : s.t ≤ 1099511627776 := by omega
  have FIN := Lib.hid fin
  clear fin hI h fit h2 h3 htl
  go_enter Try.func12, Try.ntmps12
  go_wp2_with (go_at_call 30; refine (is_some _ _ s.n s.n n0 _ c0).mono ?_; rintro e w' ⟨rfl, rfl⟩; dsimp only)
  go_quiet (fail)
  go_wp2_with (go_at_call 31; refine (at_any b q s.n s.n s.t n0 n1 hT _ (by simpa using c0)).mono ?_; rintro e w' ⟨rfl, m, rfl⟩; dsimp only)
  go_ret3
  exact ⟨rfl, by simpa using FIN.out _ _⟩
/-- The same to be read. -/
structure RingR (w : World) (b q : Nat) (s : RSt) : Prop where
  ok : s.Ok
  c0 : w.cell? ⟨b, 0, none⟩ = some (.slice (some ⟨q, 0, none⟩) s.n s.n)
  c1 : w.cell? ⟨b, 1, none⟩ = some (.int .i64 s.pol)
  c2 : w.cell? ⟨b, 2, none⟩ = some (.int .i64 s.h)
  c3 : w.cell? ⟨b, 3, none⟩ = some (.int .i64 s.t)
  pl : ∀ k p, s.L[k]? = some p → w.cell? ⟨q, (s.h + k) % s.n * 2, none⟩ = some (.int .i64 p.1) ∧ w.cell? ⟨q, (s.h + k) % s.n * 2 + 1, none⟩ = some (.bool p.2)
theorem RingR.of {w w' : World} {b q : Nat} {s : RSt} (r : RingR w b q s) (hb : Below w.heap.size w w') : RingR w' b q s where
  ok := r.ok
  c0 := (hb.cell (World.block_lt_of_cell? _ _ r.c0)).trans r.c0
  c1 := (hb.cell (World.block_lt_of_cell? _ _ r.c1)).trans r.c1
  c2 := (hb.cell (World.block_lt_of_cell? _ _ r.c2)).trans r.c2
  c3 := (hb.cell (World.block_lt_of_cell? _ _ r.c3)).trans r.c3
  pl := fun k p hk => ⟨(hb.cell (World.block_lt_of_cell? _ _ (r.pl k p hk).1)).trans (r.pl k p hk).1, (hb.cell (World.block_lt_of_cell? _ _ (r.pl k p hk).2)).trans (r.pl k p hk).2⟩
theorem ring_read {W w : World} {b : Nat} {s : RSt} {Rs : List Asn} (h : Inv W w (RingA b s :: Rs)) : ∃ q, RingR w b q s := by
  obtain ⟨q, cs, ok, fit, hI⟩ := ring_open h
  exact ⟨q, ok, hI.cell rfl, hI.cell rfl, hI.cell rfl, hI.cell rfl, fun k p hk => ⟨hI.pull1.cell (fit.2 k p hk).1, hI.pull1.cell (fit.2 k p hk).2⟩⟩
theorem RSt.ne_of {s : RSt} (r : s.Ok) : s.t ≤ 1099511627776 ∧ s.h ≤ s.t ∧ s.h ≤ 1099511627776 := by
  have := r.tail; unfold RSt.t; omega

set_option maxHeartbeats 400000 in
theorem ring_head {w : World} {b q : Nat} {s : RSt} (r : RingR w b q s) :
    Calls Try.prog 16 #[.pointer (some ⟨b, 0, none⟩)] w fun e w' => e = .returned (.int .i64 s.h) ∧ w = w' := by
  have n0 := r.ok.n0
  have n1 := r.ok.n1
  have cc := r.c2
  go_enter Try.func16, Try.ntmps16
  go_wp2_with (go_at_call 30; refine (is_some _ _ s.n s.n n0 _ (by simpa using r.c0)).mono ?_; rintro e w' ⟨rfl, rfl⟩; dsimp only)
  go_ret
  exact ⟨rfl, rfl⟩
set_option maxHeartbeats 400000 in
theorem ring_head_nil (w : World) :
    Calls Try.prog 16 #[.pointer none] w fun e w' => e = .returned (.int .i64 0) ∧ w = w' := by
  go_enter Try.func16, Try.ntmps16
  go_wp2_with (go_at_call 30; refine (is_nil _).mono ?_; rintro e w' ⟨rfl, rfl⟩; dsimp only)
  go_ret
  exact ⟨rfl, rfl⟩
set_option maxHeartbeats 400000 in
theorem ring_head_zero (b : Nat) (w : World) (h0 : w.cell? ⟨b, 0, none⟩ = some (.slice none 0 0)) :
    Calls Try.prog 16 #[.pointer (some ⟨b, 0, none⟩)] w fun e w' => e = .returned (.int .i64 0) ∧ w = w' := by
  go_enter Try.func16, Try.ntmps16
  go_wp2_with (go_at_call 30; refine (is_zero _ _ h0).mono ?_; rintro e w' ⟨rfl, rfl⟩; dsimp only)
  go_ret
  exact ⟨rfl, rfl⟩

set_option maxHeartbeats 400000 in
theorem ring_tail {w : World} {b q : Nat} {s : RSt} (r : RingR w b q s) :
    Calls Try.prog 14 #[.pointer (some ⟨b, 0, none⟩)] w fun e w' => e = .returned (.int .i64 s.t) ∧ w = w' := by
  have n0 := r.ok.n0
  have n1 := r.ok.n1
  have cc := r.c3
  go_enter Try.func14, Try.ntmps14
  go_wp2_with (go_at_call 30; refine (is_some _ _ s.n s.n n0 _ (by simpa using r.c0)).mono ?_; rintro e w' ⟨rfl, rfl⟩; dsimp only)
  go_ret
  exact ⟨rfl, rfl⟩
set_option maxHeartbeats 400000 in
theorem ring_tail_nil (w : World) :
    Calls Try.prog 14 #[.pointer none] w fun e w' => e = .returned (.int .i64 0) ∧ w = w' := by
  go_enter Try.func14, Try.ntmps14
  go_wp2_with (go_at_call 30; refine (is_nil _).mono ?_; rintro e w' ⟨rfl, rfl⟩; dsimp only)
  go_ret
  exact ⟨rfl, rfl⟩
set_option maxHeartbeats 400000 in
theorem ring_tail_zero (b : Nat) (w : World) (h0 : w.cell? ⟨b, 0, none⟩ = some (.slice none 0 0)) :
    Calls Try.prog 14 #[.pointer (some ⟨b, 0, none⟩)] w fun e w' => e = .returned (.int .i64 0) ∧ w = w' := by
  go_enter Try.func14, Try.ntmps14
  go_wp2_with (go_at_call 30; refine (is_zero _ _ h0).mono ?_; rintro e w' ⟨rfl, rfl⟩; dsimp only)
  go_ret
  exact ⟨rfl, rfl⟩

set_option maxHeartbeats 400000 in
theorem ring_room {w : World} {b q : Nat} {s : RSt} (r : RingR w b q s) :
    Calls Try.prog 28 #[.pointer (some ⟨b, 0, none⟩)] w fun e w' => e = .returned (.int .i64 s.n) ∧ w = w' := by
  have n0 := r.ok.n0
  have n1 := r.ok.n1
  have cc := r.c0
  go_enter Try.func28, Try.ntmps28
  go_wp2_with (go_at_call 30; refine (is_some _ _ s.n s.n n0 _ (by simpa using r.c0)).mono ?_; rintro e w' ⟨rfl, rfl⟩; dsimp only)
  go_ret
  exact ⟨rfl, rfl⟩
set_option maxHeartbeats 400000 in
theorem ring_room_nil (w : World) :
    Calls Try.prog 28 #[.pointer none] w fun e w' => e = .returned (.int .i64 0) ∧ w = w' := by
  go_enter Try.func28, Try.ntmps28
  go_wp2_with (go_at_call 30; refine (is_nil _).mono ?_; rintro e w' ⟨rfl, rfl⟩; dsimp only)
  go_ret
  exact ⟨rfl, rfl⟩
set_option maxHeartbeats 400000 in
theorem ring_room_zero (b : Nat) (w : World) (h0 : w.cell? ⟨b, 0, none⟩ = some (.slice none 0 0)) :
    Calls Try.prog 28 #[.pointer (some ⟨b, 0, none⟩)] w fun e w' => e = .returned (.int .i64 0) ∧ w = w' := by
  go_enter Try.func28, Try.ntmps28
  go_wp2_with (go_at_call 30; refine (is_zero _ _ h0).mono ?_; rintro e w' ⟨rfl, rfl⟩; dsimp only)
  go_ret
  exact ⟨rfl, rfl⟩

/-- What is told of an offset: 0 where it is in the window. -/
def RSt.findE (s : RSt) (k : Int) : Int := if k < 0 then 2 else if k < s.h then 61 else if (s.t : Int) ≤ k then 5 else 0

set_option maxHeartbeats 400000 in
theorem find_out {w : World} {b q : Nat} {s : RSt} (r : RingR w b q s) (k : Int) (hk : s.findE k ≠ 0) :
    Calls Try.prog 32 #[.pointer (some ⟨b, 0, none⟩), .int .i64 k] w fun e w' => e = .returned (.tuple #[.pointer none, .int .i64 (s.findE k)]) ∧ w = w' := by
  have n0 := r.ok.n0
  have n1 := r.ok.n1
  have c2 := r.c2
  have c3 := r.c3
  by_cases h0 : k < 0
  · have hf : s.findE k = 2 := by unfold RSt.findE; rw [if_pos h0]
    rw [hf]
    clear hk hf
    go_enter Try.func32, Try.ntmps32
    go_wp2_with (go_at_call 30; refine (is_some _ _ s.n s.n n0 _ (by simpa using r.c0)).mono ?_; rintro e w' ⟨rfl, rfl⟩; dsimp only)
    go_ret2
    exact ⟨rfl, rfl⟩
  by_cases h1 : k < s.h
  · have hf : s.findE k = 61 := by unfold RSt.findE; rw [if_neg h0, if_pos h1]
    rw [hf]
    clear hk hf
    go_enter Try.func32, Try.ntmps32
    go_wp2_with (go_at_call 30; refine (is_some _ _ s.n s.n n0 _ (by simpa using r.c0)).mono ?_; rintro e w' ⟨rfl, rfl⟩; dsimp only)
    go_ret2
    exact ⟨rfl, rfl⟩
  by_cases h2 : (s.t : Int) ≤ k
  · have hf : s.findE k = 5 := by unfold RSt.findE; rw [if_neg h0, if_neg h1, if_pos h2]
    rw [hf]
    clear hk hf
    go_enter Try.func32, Try.ntmps32
    go_wp2_with (go_at_call 30; refine (is_some _ _ s.n s.n n0 _ (by simpa using r.c0)).mono ?_; rintro e w' ⟨rfl, rfl⟩; dsimp only)
    go_ret2
    exact ⟨rfl, rfl⟩
  · unfold RSt.findE at hk
    rw [if_neg h0, if_neg h1, if_neg h2] at hk
    exact absurd rfl hk

set_option maxHeartbeats 400000 in
theorem find_in {w : World} {b q : Nat} {s : RSt} (r : RingR w b q s) (k : Nat) (h1 : s.h ≤ k) (h2 : k < s.t) :
    Calls Try.prog 32 #[.pointer (some ⟨b, 0, none⟩), .int .i64 k] w fun e w' => e = .returned (.tuple #[.pointer (some ⟨q, k % s.n * 2, none⟩), .int .i64 0]) ∧ ∃ m, w' = w.drewN m := by
  have n0 := r.ok.n0
  have n1 := r.ok.n1
  have c2 := r.c2
  have c3 := r.c3
  have hT : k ≤ 1099511627776 := by have := RSt.ne_of r.ok; omega
  go_enter Try.func32, Try.ntmps32
  go_wp2_with (first | (go_at_call 30; refine (is_some _ _ s.n s.n n0 _ (by simpa using r.c0)).mono ?_; rintro e w' ⟨rfl, rfl⟩; dsimp only) | (go_at_call 31; refine (at_any b q s.n s.n k n0 n1 hT _ (by simpa using r.c0)).mono ?_; rintro e w' ⟨rfl, m, rfl⟩; dsimp only))
  go_ret2
  exact ⟨rfl, _, rfl⟩
theorem RingR.at {w : World} {b q : Nat} {s : RSt} (r : RingR w b q s) (k : Nat) (h1 : s.h ≤ k) (h2 : k < s.t) :
    ∃ p, s.L[k - s.h]? = some p ∧ w.cell? ⟨q, k % s.n * 2, none⟩ = some (.int .i64 p.1) ∧ w.cell? ⟨q, k % s.n * 2 + 1, none⟩ = some (.bool p.2) := by
  have hl : k - s.h < s.L.length := by unfold RSt.t at h2; omega
  obtain ⟨p, hp⟩ : ∃ p, s.L[k - s.h]? = some p := ⟨_, List.getElem?_eq_getElem hl⟩
  have := r.pl (k - s.h) p hp
  rw [show s.h + (k - s.h) = k by omega] at this
  exact ⟨p, hp, this⟩

/-- What Get answers. -/
def RSt.get (s : RSt) (k : Int) : Int × Int :=
  if s.findE k ≠ 0 then (0, s.findE k) else match s.L[(k - s.h).toNat]? with
    | some p => if p.2 then (p.1, 0) else (0, 8)
    | none => (0, 0)
theorem RSt.find_zero {s : RSt} {k : Int} (h : s.findE k = 0) : ∃ m : Nat, k = m ∧ s.h ≤ m ∧ m < s.t := by
  unfold RSt.findE at h
  split at h
  · cases h
  split at h
  · cases h
  split at h
  · cases h
  · exact ⟨k.toNat, by omega, by omega, by omega⟩

set_option maxHeartbeats 400000 in
theorem ring_get {w : World} {b q : Nat} {s : RSt} (r : RingR w b q s) (k : Int) :
    Calls Try.prog 17 #[.pointer (some ⟨b, 0, none⟩), .int .i64 k] w fun e w' => e = .returned (duo (s.get k)) ∧ ∃ m, w' = w.drewN m := by
  by_cases hz : s.findE k = 0
  · obtain ⟨k, rfl, h1, h2⟩ := RSt.find_zero hz
    obtain ⟨p, hp, hc0, hc1⟩ := r.at k h1 h2
    have hg : s.get k = if p.2 then (p.1, 0) else (0, 8) := by
      unfold RSt.get
      rw [if_neg (by simp [hz]), show ((k : Int) - s.h).toNat = k - s.h by omega, hp]
    rw [hg]
    clear hg hz
    obtain ⟨x, d⟩ := p
    dsimp only at hc0 hc1
    clear hp
    cases d
    all_goals
      go_enter Try.func17, Try.ntmps17
      go_wp2_with (go_at_call 32; refine (find_in r k h1 h2).mono ?_; rintro e w' ⟨rfl, m, rfl⟩; dsimp only)
      go_ret2
      exact ⟨rfl, _, rfl⟩
  · have hg : s.get k = (0, s.findE k) := by unfold RSt.get; rw [if_pos hz]
    rw [hg]
    clear hg
    have hb : (s.findE k != 0) = true := by rw [bne_iff_ne]; exact hz
    have hy := Lib.hid hz
    clear hz
    go_enter Try.func17, Try.ntmps17
    go_wp2_with (go_at_call 32; refine (find_out r k hy.out).mono ?_; rintro e w' ⟨rfl, rfl⟩; dsimp only)
    go_ret2
    exact ⟨rfl, 0, rfl⟩

/-- What Publish answers, and the ring behind it. -/
def RSt.publish (s : RSt) (k : Int) : Int × RSt :=
  if s.findE k ≠ 0 then (s.findE k, s) else match s.L[(k - s.h).toNat]? with
    | some p => if p.2 then (6, s) else (0, { s with L := s.L.set (k - s.h).toNat (p.1, true) })
    | none => (0, s)

theorem mod_ne {h n k j l : Nat} (n0 : 0 < n) (hl : l ≤ n) (hk : k < l) (hj : j < l) (hne : k ≠ j) : (h + k) % n ≠ (h + j) % n := by
  intro he
  have h1 := Nat.div_add_mod (h + k) n
  have h2 := Nat.div_add_mod (h + j) n
  rw [he] at h1
  rcases Nat.lt_or_gt_of_ne hne with hlt | hlt
  · have h3 : n * ((h + j) / n) - n * ((h + k) / n) = j - k := by omega
    rw [← Nat.mul_sub] at h3
    rcases Nat.eq_zero_or_pos ((h + j) / n - (h + k) / n) with h4 | h4
    · rw [h4] at h3; omega
    · have := Nat.le_mul_of_pos_right n h4; omega
  · have h3 : n * ((h + k) / n) - n * ((h + j) / n) = k - j := by omega
    rw [← Nat.mul_sub] at h3
    rcases Nat.eq_zero_or_pos ((h + k) / n - (h + j) / n) with h4 | h4
    · rw [h4] at h3; omega
    · have := Nat.le_mul_of_pos_right n h4; omega

theorem fit_done {s : RSt} {cs : Array Value} {j : Nat} {x : Int} {d : Bool} (ok : s.Ok) (hj : s.L[j]? = some (x, d)) (h : RFit s cs) :
    RFit { s with L := s.L.set j (x, true) } (cs.setIfInBounds ((s.h + j) % s.n * 2 + 1) (.bool true)) := by
  have n0 := ok.n0
  have hm : (s.h + j) % s.n < s.n := Nat.mod_lt _ n0
  have hjl : j < s.L.length := (List.getElem?_eq_some_iff.1 hj).1
  refine ⟨by simp [h.1], fun k p hk => ?_⟩
  simp only at hk ⊢
  by_cases e : j = k
  · subst e
    rw [List.getElem?_set_self hjl] at hk
    cases hk
    obtain ⟨h1, h2⟩ := h.2 j (x, d) hj
    simp only [Array.getElem?_setIfInBounds, h.1]
    refine ⟨by rw [if_neg (by omega)]; exact h1, by rw [if_pos trivial, if_pos (by omega)]⟩
  · rw [List.getElem?_set_ne e] at hk
    have hkl : k < s.L.length := (List.getElem?_eq_some_iff.1 hk).1
    have hne := mod_ne (h := s.h) n0 ok.len hjl hkl e
    obtain ⟨h1, h2⟩ := h.2 k p hk
    simp only [Array.getElem?_setIfInBounds]
    rw [if_neg (by omega), if_neg (by omega)]
    exact ⟨h1, h2⟩

theorem ring_rd {W w : World} {b q : Nat} {s : RSt} {cs : Array Value} {Rs : List Asn} (ok : s.Ok) (fit : RFit s cs) (hI : Inv W w (Blk b (.cells (ringHead q s) 55 (0, 0)) :: Blk q (.cells cs 61 (0, 0)) :: Rs)) : RingR w b q s :=
  ⟨ok, hI.cell rfl, hI.cell rfl, hI.cell rfl, hI.cell rfl, fun k p hk => ⟨hI.pull1.cell (fit.2 k p hk).1, hI.pull1.cell (fit.2 k p hk).2⟩⟩

set_option maxHeartbeats 400000 in
theorem ring_publish {W w : World} {b : Nat} {s : RSt} {Rs : List Asn} (h : Inv W w (RingA b s :: Rs)) (k : Int) :
    Calls Try.prog 13 #[.pointer (some ⟨b, 0, none⟩), .int .i64 k] w (Ret W (.int .i64 (s.publish k).1) (RingA b (s.publish k).2 :: Rs)) := by
  obtain ⟨q, cs, ok, fit, hI⟩ := ring_open h
  have r := ring_rd ok fit hI
  by_cases hz : s.findE k = 0
  · obtain ⟨k, rfl, h1, h2⟩ := RSt.find_zero hz
    obtain ⟨⟨x, d⟩, hp, hc0, hc1⟩ := r.at k h1 h2
    have hg : s.publish k = if d then (6, s) else (0, { s with L := s.L.set (k - s.h) (x, true) }) := by
      unfold RSt.publish
      rw [if_neg (by simp [hz]), show ((k : Int) - s.h).toNat = k - s.h by omega, hp]
    rw [hg]
    clear hg hz
    have hf := hI.pull1.frozen (off := k % s.n * 2 + 1)
    have fin := fun (m : Nat) => ring_shut (b := b) (q := q) (s := { s with L := s.L.set (k - s.h) (x, true) }) ⟨ok.n0, ok.n1, by simpa using ok.len, by simpa using ok.tail⟩ (fit_done ok hp fit) (by
      have e : ringHead q { s with L := s.L.set (k - s.h) (x, true) } = ringHead q s := by simp [ringHead, RSt.t]
      rw [e, show s.h + (k - s.h) = k by omega]
      exact ((hI.drewN m).pull1.setCell (off := k % s.n * 2 + 1) (.bool true)).pull1)
    have FIN := Lib.hid fin
    have H := Lib.hid h
    clear fin h hp hI fit ok
    dsimp only at hc0 hc1
    cases d
    · go_enter Try.func13, Try.ntmps13
      go_wp2_with (go_at_call 32; refine (find_in r k h1 h2).mono ?_; rintro e w' ⟨rfl, m, rfl⟩; dsimp only)
      go_ret
      exact ⟨rfl, by simpa using FIN.out _⟩
    · go_enter Try.func13, Try.ntmps13
      go_wp2_with (go_at_call 32; refine (find_in r k h1 h2).mono ?_; rintro e w' ⟨rfl, m, rfl⟩; dsimp only)
      go_ret
      exact ⟨rfl, H.out.drewN _⟩
  · have hg : s.publish k = (s.findE k, s) := by unfold RSt.publish; rw [if_pos hz]
    rw [hg]
    clear hg
    have hb : (s.findE k != 0) = true := by rw [bne_iff_ne]; exact hz
    have hy := Lib.hid hz
    have H := Lib.hid h
    clear hz h hI fit ok
    go_enter Try.func13, Try.ntmps13
    go_wp2_with (go_at_call 32; refine (find_out r k hy.out).mono ?_; rintro e w' ⟨rfl, rfl⟩; dsimp only)
    go_ret
    exact ⟨rfl, H.out⟩
set_option maxHeartbeats 400000 in
theorem claim_nil (ref : Int) (w : World) : Calls Try.prog 12 #[.pointer none, .int .i64 ref] w fun e w' => e = .returned (tri (0, 0, 1)) ∧ w = w' := by
  go_enter Try.func12, Try.ntmps12
  go_wp2_with (go_at_call 30; refine (is_nil _).mono ?_; rintro e w' ⟨rfl, rfl⟩; dsimp only)
  go_ret3
  exact ⟨rfl, rfl⟩
set_option maxHeartbeats 400000 in
theorem claim_zero (b : Nat) (ref : Int) (w : World) (h0 : w.cell? ⟨b, 0, none⟩ = some (.slice none 0 0)) : Calls Try.prog 12 #[.pointer (some ⟨b, 0, none⟩), .int .i64 ref] w fun e w' => e = .returned (tri (0, 0, 1)) ∧ w = w' := by
  go_enter Try.func12, Try.ntmps12
  go_wp2_with (go_at_call 30; refine (is_zero _ _ h0).mono ?_; rintro e w' ⟨rfl, rfl⟩; dsimp only)
  go_ret3
  exact ⟨rfl, rfl⟩
set_option maxHeartbeats 400000 in
theorem claim_arg {w : World} {b q : Nat} {s : RSt} (r : RingR w b q s) (ref : Int) (h1 : ref < 1) : Calls Try.prog 12 #[.pointer (some ⟨b, 0, none⟩), .int .i64 ref] w fun e w' => e = .returned (tri (0, 0, 2)) ∧ w = w' := by
  have n0 := r.ok.n0
  have c0 := r.c0
  go_enter Try.func12, Try.ntmps12
  go_wp2_with (go_at_call 30; refine (is_some _ _ s.n s.n n0 _ (by simpa using c0)).mono ?_; rintro e w' ⟨rfl, rfl⟩; dsimp only)
  go_ret3
  exact ⟨rfl, rfl⟩
set_option maxHeartbeats 400000 in
set_option maxRecDepth 100000 in
theorem claim_far {w : World} {b q : Nat} {s : RSt} (r : RingR w b q s) (ref : Int) (h1 : 1 ≤ ref) (h2 : 1099511627776 ≤ s.t) : Calls Try.prog 12 #[.pointer (some ⟨b, 0, none⟩), .int .i64 ref] w fun e w' => e = .returned (tri (0, 0, 4)) ∧ w = w' := by
  have n0 := r.ok.n0
  have c0 := r.c0
  have c3 := r.c3
  have hB : decide ((1099511627776:Int) ≤ (s.t : Int)) = true := by rw [decide_eq_true_iff]; omega
  clear h2
  go_enter Try.func12, Try.ntmps12
  go_wp2_with (go_at_call 30; refine (is_some _ _ s.n s.n n0 _ (by simpa using c0)).mono ?_; rintro e w' ⟨rfl, rfl⟩; dsimp only)
  go_ret3
  exact ⟨rfl, rfl⟩
set_option maxHeartbeats 1000000 in
set_option maxRecDepth 100000 in
theorem claim_full {w : World} {b q : Nat} {s : RSt} (r : RingR w b q s) (ref : Int) (h1 : 1 ≤ ref) (h2 : s.t < 1099511627776) (h3 : s.L.length = s.n) (x : Int) (d : Bool) (L : List (Int × Bool)) (hL : s.L = (x, d) :: L) (hp : s.pol = 0 ∨ d = false) :
    Calls Try.prog 12 #[.pointer (some ⟨b, 0, none⟩), .int .i64 ref] w fun e w' => e = .returned (tri (0, 0, 60)) ∧ ∃ m, w' = w.drewN m := by
  have n0 := r.ok.n0
  have n1 := r.ok.n1
  have c0 := r.c0
  have c1 := r.c1
  have c2 := r.c2
  have c3 := r.c3
  obtain ⟨q0, q1⟩ := r.pl 0 (x, d) (by rw [hL]; rfl)
  simp only [Nat.add_zero] at q0 q1
  have htl : s.t = s.h + s.L.length := rfl
  have hht : s.h ≤ s.t := by omega
  have hht2 : s.h ≤ 1099511627776 := by omega
  have hE : ((s.t : Int) - (s.h : Int) == (s.n : Int)) = true := by rw [beq_iff_eq]; omega
  have hB : decide ((1099511627776:Int) ≤ (s.t : Int)) = false := by rw [decide_eq_false_iff_not]; omega
  have hT : s.t ≤ 1099511627776 := by omega
  clear h2 h3 htl
  have hL' := Lib.hid hL
  clear hL
  by_cases hp0 : s.pol = 0
  · have hpb : (s.pol == 0) = true := by rw [beq_iff_eq]; exact hp0
    clear hp hp0
    go_enter Try.func12, Try.ntmps12
    go_wp2_with (go_at_call 30; refine (is_some _ _ s.n s.n n0 _ (by simpa using c0)).mono ?_; rintro e w' ⟨rfl, rfl⟩; dsimp only)
    go_quiet (fail)
    go_wp2_with (go_at_call 31; refine (at_any b q s.n s.n s.h n0 n1 (by assumption) _ (by simpa using c0)).mono ?_; rintro e w' ⟨rfl, m, rfl⟩; dsimp only)
    go_ret3
    exact ⟨rfl, _, rfl⟩
  · have hpb : (s.pol == 0) = false := by rw [beq_eq_false_iff_ne]; exact hp0
    obtain rfl : d = false := hp.resolve_left hp0
    clear hp hp0
    go_enter Try.func12, Try.ntmps12
    go_wp2_with (go_at_call 30; refine (is_some _ _ s.n s.n n0 _ (by simpa using c0)).mono ?_; rintro e w' ⟨rfl, rfl⟩; dsimp only)
    go_quiet (fail)
    go_wp2_with (go_at_call 31; refine (at_any b q s.n s.n s.h n0 n1 (by assumption) _ (by simpa using c0)).mono ?_; rintro e w' ⟨rfl, m, rfl⟩; dsimp only)
    go_ret3
    exact ⟨rfl, _, rfl⟩

theorem fit_over {s : RSt} {cs : Array Value} {ref : Int} {p : Int × Bool} {L : List (Int × Bool)} (ok : s.Ok) (hl : s.L.length = s.n) (hL : s.L = p :: L) (h : RFit s cs) :
    RFit { s with h := s.h + 1, L := L ++ [(ref, false)] } ((cs.setIfInBounds (s.t % s.n * 2) (.int .i64 ref)).setIfInBounds (s.t % s.n * 2 + 1) (.bool false)) := by
  have n0 := ok.n0
  have hlen : L.length + 1 = s.n := by rw [← hl, hL]; rfl
  have h2 : RFit { s with h := s.h + 1, L := L } cs := ⟨h.1, fun k p' hk => by
    have := h.2 (k + 1) p' (by rw [hL]; exact hk)
    simp only at hk ⊢
    rw [show s.h + 1 + k = s.h + (k + 1) by omega]
    exact this⟩
  have := fit_snoc (ref := ref) (s := { s with h := s.h + 1, L := L }) ⟨n0, ok.n1, by simp; omega, by have := ok.tail; simp; omega⟩ (by simp; omega) h2
  simp only at this
  have e : s.t = s.h + 1 + L.length := by unfold RSt.t; omega
  rw [e]
  exact this

set_option maxHeartbeats 1000000 in
set_option maxRecDepth 100000 in
theorem claim_over {W w : World} {b : Nat} {s : RSt} {Rs : List Asn} (h : Inv W w (RingA b s :: Rs)) (ref : Int) (h1 : 1 ≤ ref) (h2 : s.t < 1099511627776) (h3 : s.L.length = s.n) (x : Int) (L : List (Int × Bool)) (hL : s.L = (x, true) :: L) (hp : s.pol ≠ 0) :
    Calls Try.prog 12 #[.pointer (some ⟨b, 0, none⟩), .int .i64 ref] w (Ret W (tri (s.t, x, 0)) (RingA b { s with h := s.h + 1, L := L ++ [(ref, false)] } :: Rs)) := by
  obtain ⟨q, cs, ok, fit, hI⟩ := ring_open h
  have r := ring_rd ok fit hI
  have n0 := ok.n0
  have n1 := ok.n1
  have htl : s.t = s.h + s.L.length := rfl
  have hm : s.t % s.n < s.n := Nat.mod_lt _ n0
  have hne := hI.ne
  have c0 := r.c0
  have c1 := r.c1
  have c2 := r.c2
  have c3 := r.c3
  have f2 := hI.frozen (off := 2)
  have f3 := hI.frozen (off := 3)
  have hmm : s.t % s.n = s.h % s.n := by rw [htl, h3, Nat.add_mod_right]
  obtain ⟨q0, q1⟩ := r.pl 0 (x, true) (by rw [hL]; rfl)
  simp only [Nat.add_zero] at q0 q1
  rw [← hmm] at q0 q1
  have fq0 := hI.pull1.frozen (off := s.t % s.n * 2)
  have fq1 := hI.pull1.frozen (off := s.t % s.n * 2 + 1)
  have hlen : L.length + 1 = s.n := by rw [← h3, hL]; rfl
  have fin := fun (k m : Nat) => ring_shut (b := b) (q := q) (s := { s with h := s.h + 1, L := L ++ [(ref, false)] }) ⟨n0, n1, by simp; omega, by simp; omega⟩ (fit_over ok h3 hL fit) (by
    have e : ringHead q { s with h := s.h + 1, L := L ++ [(ref, false)] } = ((ringHead q s).setIfInBounds 2 (.int .i64 ((s.h : Int) + 1))).setIfInBounds 3 (.int .i64 ((s.t : Int) + 1)) := by simp [ringHead, RSt.t]; omega
    rw [e]
    exact ((((((hI.drewN k).setCell (off := 2) (.int .i64 ((s.h : Int) + 1))).drewN m).pull1.setCell (off := s.t % s.n * 2) (.int .i64 ref)).setCell (off := s.t % s.n * 2 + 1) (.bool false)).pull1.setCell (off := 3) (.int .i64 ((s.t : Int) + 1))))
  have hE : ((s.t : Int) - (s.h : Int) == (s.n : Int)) = true := by rw [beq_iff_eq]; omega
  have hB : decide ((1099511627776:Int) ≤ (s.t : Int)) = false := by rw [decide_eq_false_iff_not]; omega
  have hpb : (s.pol == 0) = false := by rw [beq_eq_false_iff_ne]; exact hp
  have hht : s.h ≤ s.t := by omega
  have hht2 : s.h ≤ 1099511627776 := by omega
  have hT : s.t ≤ 1099511627776 := by omega
  have FIN := Lib.hid fin
  have HMM := Lib.hid hmm
  clear fin hI h fit h2 h3 htl r hL hmm hlen ok hp
  go_enter Try.func12, Try.ntmps12
  go_wp2_with (go_at_call 30; refine (is_some _ _ s.n s.n n0 _ (by simpa using c0)).mono ?_; rintro e w' ⟨rfl, rfl⟩; dsimp only)
  go_quiet (fail)
  go_wp2_with fail
  refine (at_any b q s.n s.n s.h n0 n1 hht2 _ (by simpa using c0)).mono ?_
  rintro e w' ⟨rfl, m, rfl⟩
  rw [← HMM.out]
  try dsimp only
  go_wp2_with fail
  refine (at_any b q s.n s.n s.t n0 n1 hT _ (by go_simp)).mono ?_
  rintro e w' ⟨rfl, m', rfl⟩
  dsimp only
  go_wp2_with fail
  go_ret3
  refine ⟨rfl, ?_⟩
  exact FIN.out _ _
theorem ring_claim {W w : World} {b : Nat} {s : RSt} {Rs : List Asn} (h : Inv W w (RingA b s :: Rs)) (ref : Int) :
    Calls Try.prog 12 #[.pointer (some ⟨b, 0, none⟩), .int .i64 ref] w (Ret W (tri (s.claim ref).1) (RingA b (s.claim ref).2 :: Rs)) := by
  obtain ⟨q, r⟩ := ring_read h
  by_cases h1 : ref < 1
  · rw [show s.claim ref = ((0, 0, 2), s) by unfold RSt.claim; rw [if_pos h1]]
    exact (claim_arg r ref h1).mono fun e w' ⟨he, hw⟩ => ⟨he, hw ▸ h⟩
  by_cases h2 : 1099511627776 ≤ s.h + s.L.length
  · rw [show s.claim ref = ((0, 0, 4), s) by unfold RSt.claim; rw [if_neg h1, if_pos h2]]
    exact (claim_far r ref (by omega) h2).mono fun e w' ⟨he, hw⟩ => ⟨he, hw ▸ h⟩
  have h2' : s.t < 1099511627776 := Nat.lt_of_not_le h2
  by_cases h3 : s.L.length = s.n
  · have n0 := r.ok.n0
    cases hL : s.L with
    | nil => rw [hL] at h3; simp at h3; omega
    | cons p L =>
      obtain ⟨x, d⟩ := p
      have e : s.claim ref = if s.pol = 0 ∨ d = false then ((0, 0, 60), s) else (((s.t : Int), x, 0), { s with h := s.h + 1, L := L ++ [(ref, false)] }) := by
        unfold RSt.claim
        rw [if_neg h1, if_neg h2, if_pos h3, hL]
        simp only [RSt.t, hL]
        rfl
      rw [e]
      by_cases hp : s.pol = 0 ∨ d = false
      · rw [if_pos hp]
        exact (claim_full r ref (by omega) h2' h3 x d L hL hp).mono fun e w' ⟨he, m, hw⟩ => ⟨he, hw ▸ h.drewN m⟩
      · rw [if_neg hp]
        obtain rfl : d = true := by cases d <;> simp_all
        exact claim_over h ref (by omega) h2' h3 x L hL (fun e => hp (.inl e))
  · have e : s.claim ref = (((s.t : Int), 0, 0), { s with L := s.L ++ [(ref, false)] }) := by
      unfold RSt.claim
      rw [if_neg h1, if_neg h2, if_neg h3]
      rfl
    rw [e]
    exact claim_room h ref (by omega) h2' (Nat.lt_of_le_of_ne r.ok.len h3)

set_option maxHeartbeats 400000 in
theorem ring_make_bad (room pol : Int) (w : World) (h : room < 1 ∨ 64 < room ∨ pol < 0 ∨ 1 < pol) :
    Calls Try.prog 10 #[.int .i64 room, .int .i64 pol] w fun e w' => e = .returned (.tuple #[.pointer none, .int .i64 2]) ∧ w = w' := by
  by_cases h1 : room < 1
  · clear h
    go_enter Try.func10, Try.ntmps10
    go_wp2
    go_ret2
    exact ⟨rfl, rfl⟩
  by_cases h2 : 64 < room
  · clear h
    go_enter Try.func10, Try.ntmps10
    go_wp2
    go_ret2
    exact ⟨rfl, rfl⟩
  by_cases h3 : pol < 0
  · clear h
    go_enter Try.func10, Try.ntmps10
    go_wp2
    go_ret2
    exact ⟨rfl, rfl⟩
  · have h4 : 1 < pol := by omega
    clear h
    go_enter Try.func10, Try.ntmps10
    go_wp2
    go_ret2
    exact ⟨rfl, rfl⟩

theorem placeInfo : (Try.prog.info? 61).map (fun i => (i.zero, i.size, i.bytes)) = some (some (.agg #[.int .i64 0, .bool false]), 2, 16) := by kernel_rfl

set_option maxHeartbeats 400000 in
theorem ring_make {W w : World} {Rs : List Asn} (h : Inv W w Rs) (room : Nat) (pol : Int) (h1 : 1 ≤ room) (h2 : room ≤ 64) (h3 : 0 ≤ pol) (h4 : pol ≤ 1) :
    Calls Try.prog 10 #[.int .i64 room, .int .i64 pol] w fun e w' => ∃ b, e = .returned (.tuple #[.pointer (some ⟨b, 0, none⟩), .int .i64 0]) ∧ Inv W w' (RingA b ⟨room, pol, 0, []⟩ :: Rs) := by
  obtain ⟨i0, hi, hz0, hz1, hz2⟩ := info_parts placeInfo
  have hmk := fun w => run_make (P := Try.prog) w 53 61 i0 _ Try.underlying53 hi hz0 .i64 .i64 room room (by omega) (by omega) (by rw [hz2]; omega) (by omega)
  simp only [hz1, Int.toNat_natCast] at hmk
  have fin := ((h.alloc (.cells (madeCells (Value.agg #[.int .i64 0, .bool false]).cells (room * 2)) 61)).alloc (.cells (ringHead w.heap.size ⟨room, pol, 0, []⟩) 55))
  have FIN := Lib.hid (ring_shut (s := ⟨room, pol, 0, []⟩) ⟨h1, h2, Nat.zero_le _, by simp⟩ ⟨by simp [size_madeCells]; omega, fun k p hk => by simp at hk⟩ fin)
  have H := Lib.hid h
  clear h fin hi hz0 hz1 hz2
  go_enter Try.func10, Try.ntmps10
  go_wp2
  go_ret2
  refine ⟨_, rfl, ?_⟩
  have := FIN.out
  rw [World.size_alloc] at this
  exact this
end Go.Proofs.Ytfackochjlccpaa
