/- The ring's Ready and Trim. -/
import Derived.Test.YtfackochjlccpaaRingW
namespace Go.Proofs.Ytfackochjlccpaa
open Go Go.RowKit Go.Shelf
attribute [local go_sem] Oper.semAt_some
set_option linter.unusedVariables false
set_option linter.unusedSimpArgs false

theorem takeWhile_len {α : Type} {p : α → Bool} : ∀ {l : List α} {k : Nat}, (∀ j x, j < k → l[j]? = some x → p x = true) → k ≤ l.length → (k = l.length ∨ ∃ x, l[k]? = some x ∧ p x = false) → (l.takeWhile p).length = k
  | [], k, _, hk, _ => by simp at hk; subst hk; rfl
  | x :: l, 0, _, _, h => by
    rcases h with h | ⟨y, hy, hp⟩
    · cases h
    · simp at hy; subst hy; simp [List.takeWhile_cons, hp]
  | x :: l, k + 1, ha, hk, h => by
    have hx := ha 0 x (by omega) rfl
    rw [List.takeWhile_cons, hx]
    simp only [if_true, List.length_cons]
    have hk' : k ≤ l.length := by simp at hk; exact hk
    have h' : k = l.length ∨ ∃ x, l[k]? = some x ∧ p x = false := by
      rcases h with h | ⟨y, hy, hp⟩
      · exact .inl (by simp at h; exact h)
      · exact .inr ⟨y, hy, hp⟩
    rw [takeWhile_len (fun j y hj hy => ha (j + 1) y (by omega) hy) hk' h']

/-- Where Ready begins, and what it answers. -/
def RSt.from_ (s : RSt) (f : Int) : Nat := (if f < s.h then (s.h : Int) else f).toNat
def RSt.ready (s : RSt) (f : Int) : Nat := min (s.from_ f) s.t + ((s.win (s.from_ f)).takeWhile (·.2.2)).length
theorem RSt.from_eq (s : RSt) (f : Int) : (if f < s.h then (s.h : Int) else f) = s.from_ f := by
  unfold RSt.from_
  split <;> omega

set_option maxHeartbeats 1000000 in
set_option maxRecDepth 100000 in
theorem ring_ready {W w : World} {Rs : List Asn} {b : Nat} {s : RSt} (h : Inv W w (RingA b s :: Rs)) (f : Int) :
    Calls Try.prog 15 #[.pointer (some ⟨b, 0, none⟩), .int .i64 f] w fun e w' => e = .returned (.int .i64 (s.ready f)) ∧ Inv W w' (RingA b s :: Rs) := by
  obtain ⟨q, r⟩ := ring_read h
  have n0 := r.ok.n0
  have c0 := r.c0
  have c2 := r.c2
  have c3 := r.c3
  have ok := r.ok
  have hT := (RSt.ne_of ok).1
  have H := Lib.hid h
  clear h r
  obtain ⟨m, hm⟩ : ∃ m, s.from_ f = m := ⟨_, rfl⟩
  have hr : s.ready f = min m s.t + ((s.win m).takeWhile (·.2.2)).length := by unfold RSt.ready; rw [hm]
  rw [hr]
  have hf := RSt.from_eq s f
  rw [hm] at hf
  have HF := Lib.hid hf
  clear hr hm hf
  refine (callsIn_wide (n := 0)).1 ?_
  refine callsIn_of_wp_marks (n := 0) Try.func15 rfl trivial ?_ rfl
  simp only [Try.ntmps15, List.size_toArray, List.length_cons, List.length_nil, Nat.reduceAdd, Nat.reduceSub, Array.replicate_succ, Array.replicate_zero, List.push_toArray, List.append_toArray, List.nil_append, List.cons_append]
  refine wpIn_wide.2 ?_
  go_wp2
  go_step3
  go_wp2_with (go_at_call 30; refine (is_some _ _ s.n s.n n0 _ c0).mono ?_; rintro e w' ⟨rfl, rfl⟩; dsimp only)
  have hbl : b < w.heap.size := World.block_lt_of_cell? _ _ c0
  have c2a : ∀ o : Obj, (w.alloc o).drew.cell? ⟨b, 2, none⟩ = some (.int .i64 s.h) := fun o => (Below.cell ((Below.refl _ w).alloc (Nat.le_refl _) o).drew hbl).trans c2
  have c3a : ∀ o : Obj, (w.alloc o).drew.cell? ⟨b, 3, none⟩ = some (.int .i64 s.t) := fun o => (Below.cell ((Below.refl _ w).alloc (Nat.le_refl _) o).drew hbl).trans c3
  go_region
  as_aux_lemma =>
  rw [HF.out, show (if (s.t : Int) < (m : Int) then (s.t : Int) else (m : Int)) = (min m s.t : Nat) by split <;> omega]
  go_wp2
  go_step3
  obtain ⟨v0, hv0⟩ : ∃ x, min m s.t = x := ⟨_, rfl⟩
  rw [hv0]
  have HV0 := Lib.hid hv0
  have hA := (H.out.alloc (.cells #[.int .i64 v0] 3)).drew.push1
  clear hv0 c2a c3a
  have HA := Lib.hid hA
  clear hA
  go_wp2_with fail
  refine (window_any HA.out f).mono ?_
  rintro e w2 ⟨fb, rb, rfl, hI⟩
  dsimp only
  have HI := Lib.hid hI
  clear hI
  go_wp2_with fail
  refine wpIn_wide.1 (wp_range (gf := 35) (W := W) rfl (enters_of Try.func35 (by kernel_rfl) rfl) (window_iter fb rb b f s m HF.out) (fun _ => rfl)
    (fun k => Blk w.heap.size (.cells #[.int .i64 (v0 + k : Nat)] 3 (0, 0)) :: PureA (∀ j x, j < k → (s.win m)[j]? = some x → x.2.2 = true) :: Rs)
    (fun k c => Blk w.heap.size (.cells #[.int .i64 (v0 + k : Nat)] 3 (0, 0)) :: PureA (c = .exit 0 ∧ ((s.win m).takeWhile (·.2.2)).length = k) :: (winIt fb rb b f s ++ Rs)) ?start ?round ?done ?stop)
  case start =>
      have h1 : Inv W w2 (PureA (∀ j x, j < 0 → (s.win m)[j]? = some x → x.2.2 = true) :: Blk w.heap.size (.cells #[.int .i64 v0] 3 (0, 0)) :: (winIt fb rb b f s ++ Rs)) := Inv.fact_mk (Inv.pull3 HI.out) (fun j x hj _ => absurd hj (Nat.not_lt_zero _))
      exact Inv.push3 (Inv.push4 h1)
  case round =>
    rintro l k ⟨o, ref, d⟩ w1 R hx hI
    have hk : k < s.t - m := by have := (List.getElem?_eq_some_iff.1 hx).1; rwa [win_len] at this
    have hox : o = m + k := by
      simp only [RSt.win, List.getElem?_map, List.getElem?_range hk, Option.map_some, Option.some.injEq, Prod.mk.injEq] at hx
      exact hx.1.symm
    have hv : (o : Int) + 1 = ((v0 + (k + 1) : Nat) : Int) := by have := HV0.out; omega
    have hoT : o ≤ 1099511627776 := by omega
    have HX := Lib.hid hx
    have HI := Lib.hid hI
    have HV := Lib.hid hv
    clear hI hx hox hv hk
    dsimp only [wenc]
    gi_wp2
    refine ⟨[Blk w1.heap.size (.cells #[.int .i64 ref, .bool d] 61 (0, 0))], HI.out.alloc _, fun w3 R' h3 => ?_⟩
    obtain ⟨pb, hpb⟩ : ∃ x, w1.heap.size = x := ⟨_, rfl⟩
    rw [hpb] at h3 ⊢
    clear hpb HI
    have hc := Inv.cell (off := 1) (v := .bool d) h3 rfl
    have h4 := Inv.pull4 h3
    have hcl := h4.cell (off := 0) (v := .int .i64 (v0 + k : Nat)) rfl
    have ht := h4.frozen (off := 0)
    have hF := (Inv.pull5 h4).fact
    have H4 := Lib.hid h4
    have HF' := Lib.hid hF
    clear h3 h4 hF
    cases d
    · as_aux_lemma =>
      gi_wp2
      have hlen := takeWhile_len (p := fun x : Nat × Int × Bool => x.2.2) (fun j x hj hx => HF'.out j x hj hx) (Nat.le_of_lt (List.getElem?_eq_some_iff.1 HX.out).1) (.inr ⟨_, HX.out, rfl⟩)
      exact (Inv.fact_mk (Inv.pull4 (Inv.pull1 H4.out).drop).drop ⟨rfl, hlen⟩).push1
    · as_aux_lemma =>
      gi_wp2
      have h5 := Inv.fact_mk (p := ∀ j x, j < k + 1 → (s.win m)[j]? = some x → x.2.2 = true) (Inv.pull4 (Inv.pull1 (H4.out.set1 (.int .i64 ((o : Int) + 1)))).drop).drop (fun j x hj hx => by
        rcases Nat.lt_or_eq_of_le (Nat.le_of_lt_succ hj) with h | h
        · exact HF'.out j x h hx
        · subst h; have := HX.out.symm.trans hx; cases this; rfl)
      rw [HV.out] at h5 ⊢
      exact Inv.push3 (Inv.push4 h5)
  case done =>
    intro D w3 hI
    have h2 := Inv.pull4 hI
    have hc := h2.cell (off := 0) (v := .int .i64 (v0 + (s.win m).length : Nat)) rfl
    have hK := Inv.heap hI
    have hF := (Inv.pull5 h2).fact
    have H2 := Lib.hid hI
    have HF' := Lib.hid hF
    clear hI h2 hF
    go_wp2
    refine ⟨by simp, .inl ⟨_, _, rfl, run_takeDeferred hK, ?_⟩⟩
    refine ⟨_, results_tmp rfl _ _ _, ?_, (Inv.putObj H2.out (.deferred none)).drop.drop.drop.pull1.drop.pull1.drop⟩
    rw [takeWhile_len (p := fun x : Nat × Int × Bool => x.2.2) (fun j x hj hx => HF'.out j x hj hx) (Nat.le_refl _) (.inl rfl), HV0.out]
    rfl
  case stop =>
    intro D c k w3 hk hI
    obtain ⟨rfl, hlen⟩ := (Inv.pull2 hI).fact
    have hc := (Inv.pull1 hI).cell (off := 0) (v := .int .i64 (v0 + k : Nat)) rfl
    have hK := Inv.heap hI
    have H2 := Lib.hid hI
    have HL := Lib.hid hlen
    clear hI hlen
    refine wpIn_wide.2 ?_
    go_wp2
    refine ⟨by simp, .inl ⟨_, _, rfl, run_takeDeferred hK, ?_⟩⟩
    refine ⟨_, results_tmp rfl _ _ _, ?_, (Inv.putObj H2.out (.deferred none)).drop.drop.drop.drop.drop⟩
    rw [HL.out, HV0.out]
    rfl
/-- What Trim answers, and the ring behind it. -/
def RSt.trim (s : RSt) (to : Int) : (List Int × Int) × RSt :=
  if to < 0 ∨ (s.t : Int) < to then (([], 2), s)
  else if (s.ready s.h : Int) < to then (([], 8), s)
  else ((s.refs.take (to - s.h).toNat, 0), { s with h := s.h + (to - s.h).toNat, L := s.L.drop (to - s.h).toNat })

theorem fit_drop {s : RSt} {cs : Array Value} (n : Nat) (hn : n ≤ s.L.length) (h : RFit s cs) : RFit { s with h := s.h + n, L := s.L.drop n } cs :=
  ⟨h.1, fun k p hk => by
    simp only [List.getElem?_drop] at hk ⊢
    have := h.2 (n + k) p hk
    rw [Nat.add_assoc]
    exact this⟩

theorem trim_fin {W w : World} {Rs : List Asn} {b q n c : Nat} {A : Option Addr} {cs : Array Value} {s : RSt} (hn : n ≤ s.L.length) (hc : n ≤ c)
    (h : Inv W w (Blk b (.cells (ringHead q s) 55 (0, 0)) :: Blk q (.cells cs 61 (0, 0)) :: RowA 3 1 A s.L.length c (ints s.refs) :: Rs)) (ok : s.Ok) (fit : RFit s cs) :
    Inv W (w.setCell ⟨b, 2, none⟩ (.int .i64 ((s.h : Int) + n))) (RowA 3 1 A n n (ints (s.refs.take n)) :: RingA b { s with h := s.h + n, L := s.L.drop n } :: Rs) := by
  have h1 := h.setCell (off := 2) (.int .i64 ((s.h : Int) + n))
  have e : (ringHead q s).setIfInBounds 2 (.int .i64 ((s.h : Int) + n)) = ringHead q { s with h := s.h + n, L := s.L.drop n } := by simp [ringHead, RSt.t]; omega
  rw [e] at h1
  have h2 := (ring_shut (s := { s with h := s.h + n, L := s.L.drop n }) ⟨ok.n0, ok.n1, by have := ok.len; simp; omega, by have := ok.tail; simp; omega⟩ (fit_drop n hn fit) h1).pull1
  have h3 := row_clip h2 hn (Nat.le_refl n) hc
  rw [ints_take] at h3
  exact h3

set_option maxHeartbeats 1000000 in
set_option maxRecDepth 100000 in
theorem ring_trim {W w : World} {Rs : List Asn} {b : Nat} {s : RSt} (h : Inv W w (RingA b s :: Rs)) (to : Int) :
    Calls Try.prog 18 #[.pointer (some ⟨b, 0, none⟩), .int .i64 to] w fun e w' => ∃ A c, e = .returned (.tuple #[.slice A (s.trim to).1.1.length c, .int .i64 (s.trim to).1.2]) ∧ Inv W w' (RowA 3 1 A (s.trim to).1.1.length c (ints (s.trim to).1.1) :: RingA b (s.trim to).2 :: Rs) := by
  obtain ⟨q, r⟩ := ring_read h
  have n0 := r.ok.n0
  have c0 := r.c0
  have c2 := r.c2
  have c3 := r.c3
  have ok := r.ok
  have H := Lib.hid h
  have hht := (RSt.ne_of ok).2.1
  clear r
  by_cases h1 : to < 0
  · have e : s.trim to = (([], 2), s) := by unfold RSt.trim; rw [if_pos (.inl h1)]
    rw [e]
    clear e h
    go_enter Try.func18, Try.ntmps18
    go_wp2_with (go_at_call 30; refine (is_some _ _ s.n s.n n0 _ c0).mono ?_; rintro e w' ⟨rfl, rfl⟩; dsimp only)
    go_ret2
    exact ⟨none, 0, rfl, row_nil H.out _ _⟩
  by_cases h2 : (s.t : Int) < to
  · have e : s.trim to = (([], 2), s) := by unfold RSt.trim; rw [if_pos (.inr h2)]
    rw [e]
    clear e h
    go_enter Try.func18, Try.ntmps18
    go_wp2_with (go_at_call 30; refine (is_some _ _ s.n s.n n0 _ c0).mono ?_; rintro e w' ⟨rfl, rfl⟩; dsimp only)
    go_ret2
    exact ⟨none, 0, rfl, row_nil H.out _ _⟩
  by_cases h3 : (s.ready s.h : Int) < to
  · have e : s.trim to = (([], 8), s) := by unfold RSt.trim; rw [if_neg (by omega), if_pos h3]
    rw [e]
    clear e h
    obtain ⟨rd, hrd⟩ : ∃ x, s.ready s.h = x := ⟨_, rfl⟩
    rw [hrd] at h3
    have HRD := Lib.hid hrd
    clear hrd
    go_enter Try.func18, Try.ntmps18
    go_wp2_with (first | (go_at_call 30; refine (is_some _ _ s.n s.n n0 _ c0).mono ?_; rintro e w' ⟨rfl, rfl⟩; dsimp only) | (go_at_call 15; refine (ring_ready H.out s.h).mono ?_; rintro e w' ⟨rfl, hI⟩; rw [HRD.out]; dsimp only; have HI := Lib.hid hI; clear hI))
    go_ret2
    exact ⟨none, 0, rfl, row_nil HI.out _ _⟩
  · obtain ⟨n, hn⟩ : ∃ n, (to - s.h).toNat = n := ⟨_, rfl⟩
    have e : s.trim to = ((s.refs.take n, 0), { s with h := s.h + n, L := s.L.drop n }) := by unfold RSt.trim; rw [if_neg (by omega), if_neg h3, hn]
    have hnl : n ≤ s.L.length := by unfold RSt.t at h2; omega
    have hl : (s.refs.take n).length = n := by simp [RSt.refs]; omega
    rw [e]
    dsimp only
    rw [hl]
    clear e h hl
    have hnb : n ≤ 64 := by have := ok.len; have := ok.n1; omega
    have hLb : s.L.length ≤ 64 := by have := ok.len; have := ok.n1; omega
    obtain ⟨rd, hrd⟩ : ∃ x, s.ready s.h = x := ⟨_, rfl⟩
    rw [hrd] at h3
    have HRD := Lib.hid hrd
    have HN := Lib.hid hn
    have t0 : 0 ≤ to := by omega
    have t1 : to ≤ 1099511627776 := by have := (RSt.ne_of ok).1; omega
    have hhb : s.h ≤ 1099511627776 := (RSt.ne_of ok).2.2
    have hmx : (to - s.h = (n : Int) ∧ 0 < n) ∨ (to ≤ s.h ∧ n = 0) := by omega
    clear hrd hn
    go_enter Try.func18, Try.ntmps18
    go_wp2_with (go_at_call 30; refine (is_some _ _ s.n s.n n0 _ c0).mono ?_; rintro e w' ⟨rfl, rfl⟩; dsimp only)
    refine (ring_ready H.out s.h).mono ?_
    rintro e w1 ⟨rfl, hI⟩
    rw [HRD.out]
    dsimp only
    obtain ⟨q1, r1⟩ := ring_read hI
    have d0 := r1.c0
    have d2 := r1.c2
    clear c0 c2 c3 r1
    have HI := Lib.hid hI
    clear hI
    rcases hmx with ⟨hmx, hn0⟩ | ⟨hmx, rfl⟩
    · as_aux_lemma =>
      go_wp2_with fail
      refine (ring_refs HI.out).mono ?_
      rintro e w2 ⟨A, c, rfl, h5⟩
      dsimp only
      have hnc := (row_len h5).2.1
      have hcm := (row_len h5).2.2
      unfold maxLen at hcm
      obtain ⟨q2, cs2, ok2, fit2, hJ⟩ := ring_open h5.pull1
      have e2 := hJ.cell (off := 2) (v := .int .i64 s.h) rfl
      have f2 := hJ.frozen (off := 2)
      have hNC : n ≤ c := by omega
      have H5 := Lib.hid (trim_fin hnl hNC hJ ok2 fit2)
      clear h5 d2 d0 hJ ok2 fit2
      go_wp2_with fail
      go_ret2
      exact ⟨A, n, rfl, H5.out⟩
    · as_aux_lemma =>
      go_wp2_with fail
      refine (ring_refs HI.out).mono ?_
      rintro e w2 ⟨A, c, rfl, h5⟩
      dsimp only
      have hnc := (row_len h5).2.1
      have hcm := (row_len h5).2.2
      unfold maxLen at hcm
      obtain ⟨q2, cs2, ok2, fit2, hJ⟩ := ring_open h5.pull1
      have e2 := hJ.cell (off := 2) (v := .int .i64 s.h) rfl
      have f2 := hJ.frozen (off := 2)
      have hNC : 0 ≤ c := by omega
      have H5 := Lib.hid (trim_fin hnl hNC hJ ok2 fit2)
      clear h5 d2 d0 hJ ok2 fit2
      go_wp2_with fail
      go_ret2
      exact ⟨A, 0, rfl, H5.out⟩
end Go.Proofs.Ytfackochjlccpaa
