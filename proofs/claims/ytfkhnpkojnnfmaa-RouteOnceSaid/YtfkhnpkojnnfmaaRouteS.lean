/- Where keys go: route.Sort, and the reference's. -/
import Derived.Test.YtfkhnpkojnnfmaaRoute
import Derived.Test.YtfkhnpkojnnfmaaGrid
import Derived.Test.YtfkhnpkojnnfmaaHeldIn
import Derived.Test.YtfkhnpkojnnfmaaIter
import Derived.Test.YtfkhnpkojnnfmaaInfo
import Derived.Laws.OwnMore
namespace Go.Proofs.Ytfkhnpkojnnfmaa
open Go Go.RowKit Go.Shelf
attribute [local go_sem] Oper.semAt_some
set_option linter.unusedVariables false
set_option linter.unusedSimpArgs false
/-- Keys: each of bytes, not too many, not too long. -/
def KeysOk (ks : List (List Nat)) : Prop := ks.length ≤ 257 ∧ ∀ (i : Nat) k, ks[i]? = some k → k.length ≤ 65 ∧ ∀ (j : Nat) x, k[j]? = some x → x < 256
/-- Keys in memory. -/
def KeysA (A : Option Addr) (n c : Nat) (ks : List (List Nat)) : Asn := GridA 34 5 A n c (ks.map byts)
theorem keys_len {W w : World} {A : Option Addr} {n c : Nat} {ks : List (List Nat)} {Rs : List Asn} (h : Inv W w (KeysA A n c ks :: Rs)) : ks.length = n ∧ n ≤ c ∧ c ≤ maxLen := by
  have := grid_len h
  rw [List.length_map] at this
  exact this
theorem keys_at {W w : World} {A : Option Addr} {n c : Nat} {ks : List (List Nat)} {Rs : List Asn} (h : Inv W w (KeysA A n c ks :: Rs)) (hk : KeysOk ks) {i : Nat} {k : List Nat} (hi : ks[i]? = some k) :
    ∃ (g : Nat) (B : Option Addr) (d : Nat), A = some ⟨g, 0, none⟩ ∧ w.cell? ⟨g, i, none⟩ = some (.slice B k.length d) ∧ RdB w B k ∧ k.length ≤ d ∧ d ≤ maxLen := by
  have hx : (ks.map byts)[i]? = some (byts k) := by rw [List.getElem?_map, hi]; rfl
  obtain ⟨B, d, vs, Rest, hl, hv, h2, _⟩ := grid_at h hx
  obtain ⟨g, hg, hc⟩ := row_cell h2.pull1 hv
  have := row_len h2
  rw [byts_len] at this hc
  exact ⟨g, B, d, hg, hc, row_rdb h2 (by have := (hk.2 i k hi).1; omega) (hk.2 i k hi).2, this.2.1, this.2.2⟩
def rtEnc (x : Nat × Int × Int) : Array Value := #[.int .i64 x.1, .agg #[.int .i64 x.2.1, .int .i64 x.2.2]]
def rtAll (p : Int) (ks : List (List Nat)) : List (Nat × Int × Int) := ks.mapIdx fun i k => (i, rtOf p k)
theorem rtAll_len (p : Int) (ks : List (List Nat)) : (rtAll p ks).length = ks.length := by simp [rtAll]
theorem rtAll_at {p : Int} {ks : List (List Nat)} {i : Nat} {k : List Nat} (h : ks[i]? = some k) : (rtAll p ks)[i]? = some (i, rtOf p k) := by simp [rtAll, h]
def rtIt (kb pb : Nat) (p : Int) (A : Option Addr) (n c : Nat) (ks : List (List Nat)) : List Asn :=
  [Blk kb (.cells #[.slice A n c] 22 (0, 0)), Blk pb (.cells #[.int .i64 p] 3 (0, 0)), KeysA A n c ks]
set_option maxHeartbeats 400000 in
theorem rt_all {W w : World} {Rs : List Asn} {A : Option Addr} {n c : Nat} {ks : List (List Nat)} (p : Int) (h : Inv W w (KeysA A n c ks :: Rs)) :
    Calls Try.prog 21 #[.int .i64 p, .slice A n c] w fun e w' => ∃ kb pb, e = .returned (.func (.func 24) #[] #[.pointer (some ⟨kb, 0, none⟩), .pointer (some ⟨pb, 0, none⟩)]) ∧ Inv W w' (rtIt kb pb p A n c ks ++ Rs) := by
  have fin := (h.alloc (.cells #[.int .i64 p] 3)).alloc (.cells #[.slice A n c] 22)
  rw [World.size_alloc] at fin
  have Hfin := Lib.hid fin
  clear fin
  clear h
  go_enter Try.func21, Try.ntmps21
  go_wp2
  go_ret
  exact ⟨_, _, rfl, Hfin.out⟩
set_option maxHeartbeats 1000000 in
set_option maxRecDepth 100000 in
theorem rt_iter (kb pb : Nat) (p : Int) (A : Option Addr) (n c : Nat) (ks : List (List Nat)) (hk : KeysOk ks) (hn : ks.length = n) :
    Iter Try.prog 24 #[.pointer (some ⟨kb, 0, none⟩), .pointer (some ⟨pb, 0, none⟩)] rtEnc (rtAll p ks) (fun _ => rtIt kb pb p A n c ks) := by
  intro W l J Z w hY h0
  rw [rtAll_len, hn]
  have hnb : n ≤ 257 := by have := hk.1; omega
  refine callsIn_of_wp Try.func24 rfl trivial ?_ rfl
  simp only [Try.ntmps24, List.size_toArray, List.length_cons, List.length_nil, Nat.reduceAdd, Nat.reduceSub, Array.replicate_succ, Array.replicate_zero, List.push_toArray, List.append_toArray, List.nil_append, List.cons_append]
  have hB : Inv W w (Blk kb (.cells #[.slice A n c] 22 (0, 0)) :: Blk pb (.cells #[.int .i64 p] 3 (0, 0)) :: KeysA A n c ks :: J 0) := h0
  have k0 := hB.cell (off := 0) (v := .slice A n c) rfl
  have H0 := Lib.hid h0
  have HhY := Lib.hid hY
  have Hhn := Lib.hid hn
  have Hhk := Lib.hid hk
  clear hY hn hk
  clear h0 hB
  gi_wp2
  clear k0
  gi_loopw [10] (fun i wr => ∃ k : Nat, k ≤ n ∧ i = .int .i64 k ∧ Inv W wr (rtIt kb pb p A n c ks ++ J k)) (fun i _ => n - (intOf i).toNat)
  case atStart => exact ⟨0, Nat.zero_le _, rfl, H0.out⟩
  case round =>
    obtain ⟨k, hle, rfl, hI⟩ := hrel
    have HI := Lib.hid hI
    by_cases hlt : k < n
    · obtain ⟨x, hx⟩ : ∃ x, ks[k]? = some x := ⟨_, List.getElem?_eq_getElem (by have := Hhn.out; omega)⟩
      have hB : Inv W wr (Blk kb (.cells #[.slice A n c] 22 (0, 0)) :: Blk pb (.cells #[.int .i64 p] 3 (0, 0)) :: KeysA A n c ks :: J k) := hI
      have kp := hB.pull1.cell (off := 0) (v := .int .i64 p) rfl
      obtain ⟨g, B, d, rfl, hc, hrd, _, _⟩ := keys_at hB.pull2 Hhk.out hx
      have hxx := rtAll_at (p := p) hx
      have hcall := rt_of p B x x.length d rfl wr hrd
      have Hhxx := Lib.hid hxx
      have Hhcall := Lib.hid hcall
      clear hxx hcall
      clear hx hI hB hrd
      gi_wp2_with fail
      refine ⟨trivial, rfl, CallsIn.mono (callsIn_wide.2 Hhcall.out) ?_⟩
      rintro e w' ⟨rfl, rfl⟩
      dsimp only [duoV]
      obtain ⟨fn, tmps, assign, body, hy, hR⟩ := HhY.out k (k, rtOf p x) w' Hhxx.out HI.out
      dsimp only [rtEnc] at hy
      gi_wp2_with fail
      refine ⟨rfl, hR.mono ?_⟩
      rintro e W' (⟨rfl, hJ'⟩ | ⟨rfl, hZ⟩)
      · have HhJ' := Lib.hid hJ'
        clear hJ'
        clear hy hR
        dsimp only
        gi_wp2
        go_roundw
        case rel => exact ⟨k + 1, by omega, by go_num, HhJ'.out⟩
        case measure => simp [intOf]; omega
      · have HhZ := Lib.hid hZ
        clear hZ
        clear hy hR
        dsimp only
        gi_wp2
        refine bodyPost_ret (results_none rfl _ _ _) rfl ?_
        exact ⟨⟨_, rfl⟩, .inr ⟨k, hlt, HhZ.out⟩⟩
    · obtain rfl : k = n := by omega
      clear hI
      gi_wp2
      go_end0
      exact ⟨⟨_, rfl⟩, .inl HI.out⟩
/-- Which keys go to each part, of the first m. -/
def rtSort (p : Nat) (ks : List (List Nat)) : Nat → List (List Int)
  | 0 => List.replicate p []
  | m + 1 => match ks[m]? with
    | none => rtSort p ks m
    | some k => (rtSort p ks m).modify (part p k).toNat (· ++ [(m : Int)])
theorem rtSort_len (p : Nat) (ks : List (List Nat)) (m : Nat) : (rtSort p ks m).length = p := by
  induction m with
  | zero => simp [rtSort]
  | succ m ih => unfold rtSort; split <;> simp [ih]
/-- None of the first m is too long. -/
def ShortTo (ks : List (List Nat)) (m : Nat) : Prop := ∀ (i : Nat) k, i < m → ks[i]? = some k → ¬ 64 < k.length
instance (ks : List (List Nat)) : Decidable (ShortTo ks ks.length) :=
  if h : ks.all (fun k => decide (¬ 64 < k.length)) = true then .isTrue (fun i k _ hk => by
    have := List.all_eq_true.1 h k (List.mem_of_getElem? hk)
    simpa using this)
  else .isFalse (fun hs => h (List.all_eq_true.2 fun k hk => by
    obtain ⟨i, hi⟩ := List.mem_iff_getElem?.1 hk
    have := hs i k (List.getElem?_eq_some_iff.1 hi).1 hi
    simpa using this))
/-- What Sort answers. -/
def rtSortE (p : Int) (ks : List (List Nat)) : Int := if rtMay p ≠ 0 then 2 else if 256 < ks.length then 3 else if ShortTo ks ks.length then 0 else 3
def rtRows (l : List (List Int)) : List (List Value) := l.map ints
theorem rtSort_at {p : Nat} {ks : List (List Nat)} {m : Nat} {k : List Nat} (h : ks[m]? = some k) {b : Nat} {x : List Int} (hb : (part p k).toNat = b) (hx : (rtSort p ks m)[b]? = some x) :
    rtSort p ks (m + 1) = (rtSort p ks m).set b (x ++ [(m : Int)]) := by
  rw [rtSort, h]
  dsimp only
  rw [hb]
  apply List.ext_getElem?
  intro j
  rw [List.getElem?_modify, List.getElem?_set]
  by_cases e : b = j
  · subst e
    obtain ⟨h1, h2⟩ := List.getElem?_eq_some_iff.1 hx
    simp [h1, h2]
  · simp [e]
theorem rtRows_set (l : List (List Int)) (b : Nat) (x : List Int) : (rtRows l).set b (ints x) = rtRows (l.set b x) := by simp [rtRows, List.map_set]
theorem rtSort_le (p : Nat) (ks : List (List Nat)) (m : Nat) : ∀ (b : Nat) (x : List Int), (rtSort p ks m)[b]? = some x → x.length ≤ m := by
  induction m with
  | zero =>
    intro b x h
    simp only [rtSort, List.getElem?_replicate] at h
    split at h
    · cases h; simp
    · cases h
  | succ m ih =>
    intro b x h
    unfold rtSort at h
    split at h
    · have := ih b x h; omega
    · rw [List.getElem?_modify] at h
      obtain ⟨y, hy, rfl⟩ := Option.map_eq_some_iff.1 h
      have := ih b y hy
      split <;> simp <;> omega
theorem ShortTo.succ {ks : List (List Nat)} {m : Nat} (h : ShortTo ks m) {k : List Nat} (hk : ks[m]? = some k) (hl : ¬ 64 < k.length) : ShortTo ks (m + 1) := by
  intro i k' hi hk'
  rcases Nat.lt_or_eq_of_le (Nat.le_of_lt_succ hi) with h1 | rfl
  · exact h i k' h1 hk'
  · rw [hk] at hk'; cases hk'; exact hl
set_option maxHeartbeats 1000000 in
set_option maxRecDepth 100000 in
theorem rt_sort_bad {W w : World} {Rs : List Asn} {A : Option Addr} {n c : Nat} {ks : List (List Nat)} (p : Int) (hn : n ≤ 257) (h : Inv W w Rs) (hb : rtMay p = 2) :
    Calls Try.prog 10 #[.int .i64 p, .slice A n c] w fun e w' => e = .returned (.tuple #[.slice none 0 0, .int .i64 2]) ∧ Inv W w' Rs := by
  have h1 := (h.alloc (.cells #[.slice none 0 0] 26)).alloc (.cells #[.int .i64 2] 27)
  have Hhb := Lib.hid hb
  have Hh1 := Lib.hid h1
  clear hb h1
  clear h
  go_enter Try.func10, Try.ntmps10
  go_wp2_with fail
  refine (may_any p _).mono ?_
  rintro e w' ⟨rfl, rfl⟩
  rw [Hhb.out]
  dsimp only
  go_wp2
  refine bodyPost_ret (v := .tuple #[.slice none 0 0, .int .i64 2]) ?_ rfl ⟨rfl, ?_⟩
  · simp [results, go_sem]
  · exact Hh1.out.drop.drop
set_option maxHeartbeats 1000000 in
set_option maxRecDepth 100000 in
theorem rt_sort_many {W w : World} {Rs : List Asn} {A : Option Addr} {n c : Nat} {ks : List (List Nat)} (p : Int) (hn : n ≤ 257) (h : Inv W w Rs) (hb : rtMay p = 0) (hm : 256 < n) :
    Calls Try.prog 10 #[.int .i64 p, .slice A n c] w fun e w' => e = .returned (.tuple #[.slice none 0 0, .int .i64 3]) ∧ Inv W w' Rs := by
  have h1 := (h.alloc (.cells #[.slice none 0 0] 26)).alloc (.cells #[.int .i64 3] 27)
  have Hhb := Lib.hid hb
  have Hh1 := Lib.hid h1
  clear hb h1
  clear h
  go_enter Try.func10, Try.ntmps10
  go_wp2_with fail
  refine (may_any p _).mono ?_
  rintro e w' ⟨rfl, rfl⟩
  rw [Hhb.out]
  dsimp only
  go_wp2
  refine bodyPost_ret (v := .tuple #[.slice none 0 0, .int .i64 3]) ?_ rfl ⟨rfl, ?_⟩
  · simp [results, go_sem]
  · exact Hh1.out.drop.drop
theorem run_build1 (w : World) (k : Int) : (Instr.buildSlice 30 1 #[(0, .int .i64 k)]).run Try.prog w = .ok (.slice (some ⟨w.heap.size, 0, none⟩) 1 1) (w.alloc (.cells #[.int .i64 k] 3)) := by go_simp
theorem run_loadRow (w : World) (g b : Nat) (v : Value) (h : w.cell? ⟨g, b, none⟩ = some v) : (Instr.loadAt 30 (.pointer (some ⟨g, b, none⟩))).run Try.prog w = .ok v w := by go_simp
theorem run_storeRow (w : World) (g b : Nat) (u v : Value) (A : Option Addr) (n c : Nat) (hv : v = .slice A n c) (h : w.cell? ⟨g, b, none⟩ = some u) (hf : w.frozen? ⟨g, b, none⟩ = false) : (Instr.storeAt 30 (.pointer (some ⟨g, b, none⟩)) v).run Try.prog w = .ok () (w.setCell ⟨g, b, none⟩ v) := by subst hv; go_simp
theorem rowInfo : (Try.prog.info? 30).map (fun i => (i.zero, i.size, i.bytes)) = some (some (.slice none 0 0), 1, 24) := by kernel_rfl
set_option maxHeartbeats 1000000 in
set_option maxRecDepth 100000 in
theorem rt_sort {W w : World} {Rs : List Asn} {A : Option Addr} {n c : Nat} {ks : List (List Nat)} (p : Nat) (hb : rtMay p = 0) (hm : n ≤ 256) (hk : KeysOk ks) (h : Inv W w (KeysA A n c ks :: Rs)) :
    Calls Try.prog 10 #[.int .i64 p, .slice A n c] w fun e w' =>
      (ShortTo ks n ∧ ∃ g, e = .returned (.tuple #[.slice (some ⟨g, 0, none⟩) p p, .int .i64 0]) ∧ Inv W w' (GridA 30 3 (some ⟨g, 0, none⟩) p p (rtRows (rtSort p ks n)) :: KeysA A n c ks :: Rs)) ∨
      (¬ ShortTo ks n ∧ e = .returned (.tuple #[.slice none 0 0, .int .i64 3]) ∧ Inv W w' (KeysA A n c ks :: Rs)) := by
  obtain ⟨hn, hnc, hcm⟩ := keys_len h
  obtain ⟨p1, p2⟩ := rtMay_ok hb
  obtain ⟨i1, hi', hz0', hz1', hz2'⟩ := info_parts rowInfo
  have hmk := fun w => run_make (P := Try.prog) w 26 30 i1 _ Try.underlying26 hi' hz0' .i64 .i64 p p (by omega) (by omega) (by rw [hz2']; omega) (by omega)
  simp only [hz1', Int.toNat_natCast] at hmk
  have h1 := ((h.alloc (.cells #[.slice none 0 0] 26)).alloc (.cells #[.int .i64 0] 27))
  have hg0 := row_mk (n := p) (c := p) (sz := 1) (xs := List.replicate p (.slice none 0 0)) (h1.alloc (.cells (madeCells #[.slice none 0 0] p) 30)) (Nat.le_refl p) (by unfold maxLen; omega) (by rw [size_madeCells]; omega) (by rw [toList_madeCells_one, List.take_of_length_le (by simp)])
  have hg1 := ((grid_nils (ei := 3) hg0).alloc (.cells #[.slice (some ⟨w.heap.size + 1 + 1, 0, none⟩) p p] 26))
  simp only [World.size_alloc] at hg1
  have hg2 := Inv.pull4 hg1
  clear hi' hz0' hz1' hz2'
  unfold maxLen at hcm
  have Hhg2 := Lib.hid hg2
  have Hhb := Lib.hid hb
  have Hhn := Lib.hid hn
  have Hhk := Lib.hid hk
  clear hg2 hb hn hk
  clear h1 hg0 hg1 h
  refine (callsIn_wide (n := 0)).1 ?_
  refine callsIn_of_wp_marks (n := 0) Try.func10 rfl trivial ?_ rfl
  simp only [Try.ntmps10, List.size_toArray, List.length_cons, List.length_nil, Nat.reduceAdd, Nat.reduceSub, Array.replicate_succ, Array.replicate_zero, List.push_toArray, List.append_toArray, List.nil_append, List.cons_append]
  refine wpIn_wide.2 ?_
  go_wp2_with fail
  refine (may_any p _).mono ?_
  rintro e w' ⟨rfl, rfl⟩
  rw [Hhb.out]
  dsimp only
  go_wp2_with fail
  refine (rt_all p Hhg2.out).mono ?_
  rintro e w2 ⟨kb, pb, rfl, hI⟩
  dsimp only
  have HI := Lib.hid hI
  clear hI hmk
  obtain ⟨b0, hb0⟩ : ∃ x, w.heap.size = x := ⟨_, rfl⟩
  rw [hb0] at HI ⊢
  clear hb0 Hhg2
  go_wp2_with fail
  refine wpIn_wide.1 (wp_range (gf := 24) (W := W) rfl (enters_of Try.func24 (by kernel_rfl) rfl) (rt_iter kb pb p A n c ks Hhk.out Hhn.out) (fun _ => rfl)
    (fun k => PureA (ShortTo ks k) :: GridA 30 3 (some ⟨b0 + 1 + 1, 0, none⟩) p p (rtRows (rtSort p ks k)) :: Blk (b0 + 1 + 1 + 1) (.cells #[.slice (some ⟨b0 + 1 + 1, 0, none⟩) p p] 26 (0, 0)) :: Blk (b0 + 1) (.cells #[.int .i64 0] 27 (0, 0)) :: Blk b0 (.cells #[.slice none 0 0] 26 (0, 0)) :: Rs)
    (fun k cd => Blk (b0 + 1) (.cells #[.int .i64 3] 27 (0, 0)) :: Blk b0 (.cells #[.slice none 0 0] 26 (0, 0)) :: PureA (cd = .ret ∧ ¬ ShortTo ks n) :: KeysA A n c ks :: Rs) ?start ?round ?done ?stop)
  case start =>
    have h1 := (Inv.fact_mk (p := ShortTo ks 0) (Inv.pull4 HI.out).push3 (fun i k hi _ => by omega)).push3
    simpa [rtRows, rtSort, ints, rtIt] using h1
  case round =>
    rintro l k ⟨i, y, e⟩ w1 R hx hI
    have hkn : k < n := by have := (List.getElem?_eq_some_iff.1 hx).1; rw [rtAll_len] at this; have := Hhn.out; omega
    obtain ⟨key, hkey⟩ : ∃ key, ks[k]? = some key := ⟨_, List.getElem?_eq_getElem (by have := Hhn.out; omega)⟩
    rw [rtAll_at hkey] at hx
    simp only [Option.some.injEq, Prod.mk.injEq] at hx
    obtain ⟨rfl, hx⟩ := hx
    have HI := Lib.hid hI
    clear hI
    dsimp only [rtEnc]
    gi_wp2
    refine ⟨[Blk w1.heap.size (.cells #[.int .i64 y, .int .i64 e] 51 (0, 0))], HI.out.alloc _, fun w3 R' h3 => ?_⟩
    obtain ⟨wb, hwb⟩ : ∃ x, w1.heap.size = x := ⟨_, rfl⟩
    rw [hwb] at h3 ⊢
    clear hwb HI
    by_cases hlong : 64 < key.length
    · rw [rtOf_long Hhb.out hlong] at hx
      cases hx
      have hns : ¬ ShortTo ks n := fun hs => hs k key hkn hkey hlong
      have c1 := h3.cell (off := 1) (v := .int .i64 3) rfl
      have f0 := (Inv.pull8 h3).frozen (off := 0)
      have f1 := (Inv.pull7 h3).frozen (off := 0)
      have k0 := (Inv.pull8 h3).cell (off := 0) (v := .slice none 0 0) rfl
      have k1 := (Inv.pull7 h3).cell (off := 0) (v := .int .i64 0) rfl
      have H3 := Lib.hid h3
      clear h3
      as_aux_lemma =>
      gi_wp2
      gi_region
      all_goals
        gi_wp2
        have fin := (Inv.fact_mk (p := Code.ret = Code.ret ∧ ¬ ShortTo ks n) ((Inv.pull8 ((Inv.pull8 H3.out).set1 (.slice none 0 0))).set1 (.int .i64 3)).pull2.drop.pull2.drop.pull2.drop.pull3.drop.pull3.drop.pull3.drop ⟨rfl, hns⟩).push2
        first | exact fin | exact fin.drew
    · rw [rtOf_in Hhb.out hlong] at hx
      cases hx
      obtain ⟨q0, q1⟩ := part_lt (p := (p : Int)) (by omega) key
      obtain ⟨b, hb⟩ : ∃ b : Nat, part p key = b := ⟨(part p key).toNat, by omega⟩
      have hbn : (part p key).toNat = b := by omega
      rw [hb] at h3 q0 q1 ⊢
      have hbp : b < p := by omega
      obtain ⟨x, hxb⟩ : ∃ x, (rtSort p ks k)[b]? = some x := ⟨_, List.getElem?_eq_getElem (by rw [rtSort_len]; exact hbp)⟩
      have hxl := rtSort_le p ks k b x hxb
      have hS := rtSort_at hkey hbn hxb
      have hxr : (rtRows (rtSort p ks k))[b]? = some (ints x) := by unfold rtRows; rw [List.getElem?_map, hxb]; rfl
      have hsh := (Inv.pull4 h3).fact
      have hsn := ShortTo.succ hsh hkey hlong
      obtain ⟨B, d, vs, L, hvl, hvb, h4, hput⟩ := grid_at (Inv.pull5 h3) hxr
      have c0 := h3.cell (off := 0) (v := .int .i64 b) rfl
      have c1 := h3.cell (off := 1) (v := .int .i64 0) rfl
      have cb := (Inv.pull6 h3).cell (off := 0) (v := .slice (some ⟨b0 + 1 + 1, 0, none⟩) p p) rfl
      obtain ⟨g', eg, cg⟩ := row_cell h4.pull1 hvb
      cases eg
      rw [ints_len] at cg hvb h4
      have hfz : w3.frozen? ⟨b0 + 1 + 1, b, none⟩ = false := (row_at h4.pull1 (by omega)).elim fun g hg => by
        obtain ⟨e1, _, e2⟩ := hg
        cases e1
        exact e2 b
      have H4 := Lib.hid h4
      have Hhput := Lib.hid hput
      have HhS := Lib.hid hS
      have Hhsn := Lib.hid hsn
      have Hhvb := Lib.hid hvb
      clear hput hS hsn hvb
      clear h3 h4 hxb hxr hkey hsh hbn hb hvl
      as_aux_lemma =>
      gi_wp2
      refine (?_ : ∀ a : Act, a.tmps.size = 43 → a.eval (.tmp 7) = .pointer (some ⟨b0 + 1 + 1 + 1, 0, none⟩) → a.eval (.tmp 8) = .int .i64 k → a.eval (.tmp 9) = .pointer (some ⟨wb, 0, none⟩) → Code.wpIn _ _ _ _ _ a _) _ rfl rfl rfl rfl
      intro a hsz e7 e8 e9
      refine wpIn_region_held (S := fun w' => w'.cell? ⟨b0 + 1 + 1 + 1, 0, none⟩ = some (.slice (some ⟨b0 + 1 + 1, 0, none⟩) p p) ∧ w'.cell? ⟨wb, 0, none⟩ = some (.int .i64 b)) (by kernel_rfl) (by kernel_rfl) ⟨by simpa using cb, by simpa using c0⟩ (fun hHeld => ?_)
      show wpAnyH _ _ _ _ _ 13 (Array.replicate 13 false) _ _
      refine wpAnyH_take (i := 0) (v := .slice (some ⟨b0 + 1 + 1, 0, none⟩) p p) rfl (by kernel_rfl) (by kernel_rfl) (by kernel_rfl) (fun _ _ _ h => h.elim) (Or.inl ⟨by rfl, fun w hSw => yields_val (m := Instr.loadAt 26 (.pointer (some ⟨b0 + 1 + 1 + 1, 0, none⟩))) (by simp [execOp, ev_put_ne, ev_put_eq, put_size, e7, e8, e9, hsz]) ?_⟩) (by assumption) ?_
      · obtain ⟨hS1, hS2⟩ := hSw
        go_simp
      show wpAnyH _ _ _ _ _ _ _ (Act.put _ (some 30) _) _
      refine wpAnyH_take (i := 1) (v := .pointer (some ⟨wb, 0, none⟩)) rfl (by kernel_rfl) (by kernel_rfl) (by kernel_rfl) (fun _ _ _ h => h.elim) (Or.inl ⟨by rfl, fun w hSw => yields_val (m := Instr.fieldAt 51 (.pointer (some ⟨wb, 0, none⟩)) 0) (by simp [execOp, ev_put_ne, ev_put_eq, put_size, e7, e8, e9, hsz]) ?_⟩) (by assumption) ?_
      · obtain ⟨hS1, hS2⟩ := hSw
        go_simp
      show wpAnyH _ _ _ _ _ _ _ (Act.put _ (some 31) _) _
      refine wpAnyH_take (i := 2) (v := .int .i64 b) rfl (by kernel_rfl) (by kernel_rfl) (by kernel_rfl) (fun _ _ _ h => h.elim) (Or.inl ⟨by rfl, fun w hSw => yields_val (m := Instr.loadAt 3 (.pointer (some ⟨wb, 0, none⟩))) (by simp [execOp, ev_put_ne, ev_put_eq, put_size, e7, e8, e9, hsz]) ?_⟩) (by assumption) ?_
      · obtain ⟨hS1, hS2⟩ := hSw
        go_simp
      show wpAnyH _ _ _ _ _ _ _ (Act.put _ (some 32) _) _
      refine wpAnyH_take (i := 3) (v := .slice (some ⟨b0 + 1 + 1, 0, none⟩) p p) rfl (by kernel_rfl) (by kernel_rfl) (by kernel_rfl) (fun _ _ _ h => h.elim) (Or.inl ⟨by rfl, fun w hSw => yields_val (m := Instr.loadAt 26 (.pointer (some ⟨b0 + 1 + 1 + 1, 0, none⟩))) (by simp [execOp, ev_put_ne, ev_put_eq, put_size, e7, e8, e9, hsz]) ?_⟩) (by assumption) ?_
      · obtain ⟨hS1, hS2⟩ := hSw
        go_simp
      show wpAnyH _ _ _ _ _ _ _ (Act.put _ (some 33) _) _
      refine wpAnyH_take (i := 4) (v := .pointer (some ⟨wb, 0, none⟩)) rfl (by kernel_rfl) (by kernel_rfl) (by kernel_rfl) (fun _ _ _ h => h.elim) (Or.inl ⟨by rfl, fun w hSw => yields_val (m := Instr.fieldAt 51 (.pointer (some ⟨wb, 0, none⟩)) 0) (by simp [execOp, ev_put_ne, ev_put_eq, put_size, e7, e8, e9, hsz]) ?_⟩) (by assumption) ?_
      · obtain ⟨hS1, hS2⟩ := hSw
        go_simp
      show wpAnyH _ _ _ _ _ _ _ (Act.put _ (some 34) _) _
      refine wpAnyH_take (i := 5) (v := .int .i64 b) rfl (by kernel_rfl) (by kernel_rfl) (by kernel_rfl) (fun _ _ _ h => h.elim) (Or.inl ⟨by rfl, fun w hSw => yields_val (m := Instr.loadAt 3 (.pointer (some ⟨wb, 0, none⟩))) (by simp [execOp, ev_put_ne, ev_put_eq, put_size, e7, e8, e9, hsz]) ?_⟩) (by assumption) ?_
      · obtain ⟨hS1, hS2⟩ := hSw
        go_simp
      show wpAnyH _ _ _ _ _ _ _ (Act.put _ (some 35) _) _
      refine wpAnyH_take (i := 6) (v := .pointer (some ⟨b0 + 1 + 1, b, none⟩)) rfl (by kernel_rfl) (by kernel_rfl) (by kernel_rfl) (fun _ _ _ h => h.elim) (Or.inl ⟨by rfl, fun w hSw => yields_val (m := Instr.indexAt 26 (.slice (some ⟨b0 + 1 + 1, 0, none⟩) p p) (.int .i64 b)) (by simp [execOp, ev_put_ne, ev_put_eq, put_size, e7, e8, e9, hsz]) ?_⟩) (by assumption) ?_
      · obtain ⟨hS1, hS2⟩ := hSw
        go_simp
      show wpAnyH _ _ _ _ _ _ _ (Act.put _ (some 36) _) _
      refine wpAnyH_take (i := 8) (v := .int .i64 k) rfl (by kernel_rfl) (by kernel_rfl) (by kernel_rfl) (fun _ _ _ h => h.elim) (Or.inl ⟨by rfl, fun w hSw => yields_val (m := pure (.int .i64 k)) (by simp [execOp, ev_put_ne, ev_put_eq, put_size, e7, e8, e9, hsz]) ?_⟩) (by assumption) ?_
      · obtain ⟨hS1, hS2⟩ := hSw
        go_simp
      show wpAnyH _ _ _ _ _ _ _ (Act.put _ (some 38) _) _
      have hA := H4.out.drew.alloc (.cells #[.int .i64 k] 3)
      obtain ⟨i0, hi, hz0, hz1, hz2⟩ := info_parts intInfo
      have hrd : Rd (w3.drew.alloc (.cells #[.int .i64 k] 3)) 1 (some ⟨w3.heap.size, 0, none⟩) 1 [.int .i64 k] := blk_rd (sz := 1) (n := 1) (cs := [.int .i64 k]) hA (by simp) (fun j u hj => by simpa using hj)
      have HA := Lib.hid hA
      have cgA : (w3.drew.alloc (.cells #[.int .i64 k] 3)).cell? ⟨b0 + 1 + 1, b, none⟩ = some (.slice B x.length d) := by
        obtain ⟨g', eg, cg'⟩ := row_cell hA.pull2 Hhvb.out
        cases eg
        exact cg'
      clear hA
      refine wpAnyH_ready (rs := [7, 9]) (by kernel_rfl) (by simp) ?_
      refine AllReadyH.cons rfl (fun K hK => ?_) (AllReadyH.cons rfl (fun K hK => ?_) AllReadyH.nil)
      · rw [if_pos (by rfl)]
        (with_reducible refine wp_val (v := .slice B x.length d) (w' := w3.drew) (yields_in (m := Instr.loadAt 30 (.pointer (some ⟨b0 + 1 + 1, b, none⟩))) ?_ ?_) ?_)
        · simp [execOp, ev_put_ne, ev_put_eq, put_size, e7, e8, e9, hsz]
        · exact (run_loadRow _ _ _ _ (by simpa using cg))
        refine hK.out _ _ ?_ (fun hHeld => ?_)
        · exact hHeld
        clear hK K
        show wpAnyH _ _ _ _ _ _ _ (Act.put _ (some 37) _) _
        refine wpAnyH_ready (rs := [9]) (by kernel_rfl) (by simp) ?_
        refine AllReadyH.cons rfl (fun K hK => ?_) AllReadyH.nil
        rw [if_pos (by rfl)]
        (with_reducible refine wp_val (v := .slice (some ⟨w3.heap.size, 0, none⟩) 1 1) (w' := w3.drew.alloc (.cells #[.int .i64 k] 3)) (yields_in (m := Instr.buildSlice 30 1 #[(0, .int .i64 k)]) ?_ ?_) ?_)
        · simp [execOp, ev_put_ne, ev_put_eq, put_size, e7, e8, e9, hsz]
        · exact (run_build1 _ _)
        refine hK.out _ _ ?_ (fun hHeld => ?_)
        · exact ⟨(Inv.pull5 (Inv.dropL L HA.out.drop.drop.drop)).cell rfl, (Inv.dropL L HA.out.drop.drop.drop).cell rfl⟩
        clear hK K
        show wpAnyH _ _ _ _ _ _ _ (Act.put _ (some 39) _) _
        refine wpAnyH_ready (rs := [10]) (by kernel_rfl) (by simp) ?_
        refine AllReadyH.cons rfl (fun K hK => ?_) AllReadyH.nil
        rw [if_pos (by rfl)]
        (with_reducible refine wp_append_rd (W := W) (e := 3) (sz := 1) (n := x.length) (m := 1) (c := d) (c' := 1) (A := B) (B := some ⟨w3.heap.size, 0, none⟩) (xs := ints x) (cs := [.int .i64 k]) (.tmp 37) (.tmp 39) 30 ?_ i0 (.int .i64 0) 8 Try.underlying30 hi hz0 hz1 hz2 ?_ ?_ ?_ HA.out.pull1 ?_ hrd ?_ ?_ ?_ ?_)
        · rfl
        · rfl
        · decide
        · simp [ev_put_ne, ev_put_eq, put_size, hsz]
        · simp [ev_put_ne, ev_put_eq, put_size, hsz]
        · exact one_one rfl
        · unfold maxLen; omega
        · omega
        intro A' c2 w' h6
        rw [← ints_snoc] at h6
        have h7 := h6.pull1.drop
        have hl : (ints (x ++ [(k : Int)])).length = x.length + 1 := by simp [ints]
        rw [← hl] at h7 ⊢
        have hrest := Inv.dropL L h7.drop.drop
        have cv := row_at h7.pull1 (by omega)
        obtain ⟨g9, e9', cv, fv⟩ := cv
        cases e9'
        have cvb := cv b _ Hhvb.out
        have fvb := fv b
        have h8 := (row_set h7.pull1 b (by rw [(row_len h7.pull1).1]; omega) (.slice A' (ints (x ++ [(k : Int)])).length c2)).pull1
        have h9 := Hhput.out _ _ _ _ _ _ h8
        rw [rtRows_set, ← HhS.out] at h9
        have fin := (Inv.fact_mk (p := ShortTo ks (k + 1)) h9.pull1.drop.pull4.drop.push3 Hhsn.out).push3
        have FIN := Lib.hid fin
        have hrest2 := Inv.dropL L h8.drop.drop
        have HR := Lib.hid hrest
        have HR2 := Lib.hid hrest2
        clear h6 h7 h8 h9 fin hrest hrest2 cv fv
        refine hK.out _ _ ?_ (fun hHeld => ?_)
        · exact ⟨(Inv.pull5 HR.out).cell rfl, HR.out.cell rfl⟩
        clear hK K
        show wpAnyH _ _ _ _ _ _ _ (Act.put _ (some 40) _) _
        refine wpAnyH_take (i := 11) (v := .pointer (some ⟨b0 + 1 + 1, b, none⟩)) rfl (by kernel_rfl) (by kernel_rfl) (by kernel_rfl) (fun _ _ _ h => h.elim) (Or.inl ⟨by rfl, fun w hSw => yields_val (m := Instr.indexAt 26 (.slice (some ⟨b0 + 1 + 1, 0, none⟩) p p) (.int .i64 b)) (by simp [execOp, ev_put_ne, ev_put_eq, put_size, e7, e8, e9, hsz]) ?_⟩) (by assumption) ?_
        · obtain ⟨hS1, hS2⟩ := hSw
          go_simp
        show wpAnyH _ _ _ _ _ _ _ (Act.put _ (some 41) _) _
        refine wpAnyH_ready (rs := [12]) (by kernel_rfl) (by simp) ?_
        refine AllReadyH.cons rfl (fun K hK => ?_) AllReadyH.nil
        rw [if_pos (by rfl)]
        (with_reducible refine wp_skip' (w' := w'.setCell ⟨b0 + 1 + 1, b, none⟩ (.slice A' (ints (x ++ [(k : Int)])).length c2)) (skips_in (m := Instr.storeAt 30 (.pointer (some ⟨b0 + 1 + 1, b, none⟩)) (.slice A' (ints (x ++ [(k : Int)])).length c2)) ?_ ?_) ?_)
        · simp [execOp, ev_put_ne, ev_put_eq, put_size, e7, e8, e9, hsz]
        · exact run_storeRow _ _ _ _ _ _ _ _ rfl cvb fvb
        refine hK.out _ _ ?_ (fun hHeld => ?_)
        · exact ⟨(Inv.pull5 HR2.out).cell rfl, HR2.out.cell rfl⟩
        clear hK K
        refine wpAnyH_done (by kernel_rfl) ?_ _
        exact FIN.out
      · rw [if_pos (by rfl)]
        (with_reducible refine wp_val (v := .slice (some ⟨w3.heap.size, 0, none⟩) 1 1) (w' := w3.drew.alloc (.cells #[.int .i64 k] 3)) (yields_in (m := Instr.buildSlice 30 1 #[(0, .int .i64 k)]) ?_ ?_) ?_)
        · simp [execOp, ev_put_ne, ev_put_eq, put_size, e7, e8, e9, hsz]
        · exact (run_build1 _ _)
        refine hK.out _ _ ?_ (fun hHeld => ?_)
        · exact ⟨(Inv.pull5 (Inv.dropL L HA.out.drop.drop.drop)).cell rfl, (Inv.dropL L HA.out.drop.drop.drop).cell rfl⟩
        clear hK K
        show wpAnyH _ _ _ _ _ _ _ (Act.put _ (some 39) _) _
        refine wpAnyH_ready (rs := [7]) (by kernel_rfl) (by simp) ?_
        refine AllReadyH.cons rfl (fun K hK => ?_) AllReadyH.nil
        rw [if_pos (by rfl)]
        (with_reducible refine wp_val (v := .slice B x.length d) (w' := w3.drew.alloc (.cells #[.int .i64 k] 3)) (yields_in (m := Instr.loadAt 30 (.pointer (some ⟨b0 + 1 + 1, b, none⟩))) ?_ ?_) ?_)
        · simp [execOp, ev_put_ne, ev_put_eq, put_size, e7, e8, e9, hsz]
        · exact (run_loadRow _ _ _ _ cgA)
        refine hK.out _ _ ?_ (fun hHeld => ?_)
        · exact hHeld
        clear hK K
        show wpAnyH _ _ _ _ _ _ _ (Act.put _ (some 37) _) _
        refine wpAnyH_ready (rs := [10]) (by kernel_rfl) (by simp) ?_
        refine AllReadyH.cons rfl (fun K hK => ?_) AllReadyH.nil
        rw [if_pos (by rfl)]
        (with_reducible refine wp_append_rd (W := W) (e := 3) (sz := 1) (n := x.length) (m := 1) (c := d) (c' := 1) (A := B) (B := some ⟨w3.heap.size, 0, none⟩) (xs := ints x) (cs := [.int .i64 k]) (.tmp 37) (.tmp 39) 30 ?_ i0 (.int .i64 0) 8 Try.underlying30 hi hz0 hz1 hz2 ?_ ?_ ?_ HA.out.pull1 ?_ hrd ?_ ?_ ?_ ?_)
        · rfl
        · rfl
        · decide
        · simp [ev_put_ne, ev_put_eq, put_size, hsz]
        · simp [ev_put_ne, ev_put_eq, put_size, hsz]
        · exact one_one rfl
        · unfold maxLen; omega
        · omega
        intro A' c2 w' h6
        rw [← ints_snoc] at h6
        have h7 := h6.pull1.drop
        have hl : (ints (x ++ [(k : Int)])).length = x.length + 1 := by simp [ints]
        rw [← hl] at h7 ⊢
        have hrest := Inv.dropL L h7.drop.drop
        have cv := row_at h7.pull1 (by omega)
        obtain ⟨g9, e9', cv, fv⟩ := cv
        cases e9'
        have cvb := cv b _ Hhvb.out
        have fvb := fv b
        have h8 := (row_set h7.pull1 b (by rw [(row_len h7.pull1).1]; omega) (.slice A' (ints (x ++ [(k : Int)])).length c2)).pull1
        have h9 := Hhput.out _ _ _ _ _ _ h8
        rw [rtRows_set, ← HhS.out] at h9
        have fin := (Inv.fact_mk (p := ShortTo ks (k + 1)) h9.pull1.drop.pull4.drop.push3 Hhsn.out).push3
        have FIN := Lib.hid fin
        have hrest2 := Inv.dropL L h8.drop.drop
        have HR := Lib.hid hrest
        have HR2 := Lib.hid hrest2
        clear h6 h7 h8 h9 fin hrest hrest2 cv fv
        refine hK.out _ _ ?_ (fun hHeld => ?_)
        · exact ⟨(Inv.pull5 HR.out).cell rfl, HR.out.cell rfl⟩
        clear hK K
        show wpAnyH _ _ _ _ _ _ _ (Act.put _ (some 40) _) _
        refine wpAnyH_take (i := 11) (v := .pointer (some ⟨b0 + 1 + 1, b, none⟩)) rfl (by kernel_rfl) (by kernel_rfl) (by kernel_rfl) (fun _ _ _ h => h.elim) (Or.inl ⟨by rfl, fun w hSw => yields_val (m := Instr.indexAt 26 (.slice (some ⟨b0 + 1 + 1, 0, none⟩) p p) (.int .i64 b)) (by simp [execOp, ev_put_ne, ev_put_eq, put_size, e7, e8, e9, hsz]) ?_⟩) (by assumption) ?_
        · obtain ⟨hS1, hS2⟩ := hSw
          go_simp
        show wpAnyH _ _ _ _ _ _ _ (Act.put _ (some 41) _) _
        refine wpAnyH_ready (rs := [12]) (by kernel_rfl) (by simp) ?_
        refine AllReadyH.cons rfl (fun K hK => ?_) AllReadyH.nil
        rw [if_pos (by rfl)]
        (with_reducible refine wp_skip' (w' := w'.setCell ⟨b0 + 1 + 1, b, none⟩ (.slice A' (ints (x ++ [(k : Int)])).length c2)) (skips_in (m := Instr.storeAt 30 (.pointer (some ⟨b0 + 1 + 1, b, none⟩)) (.slice A' (ints (x ++ [(k : Int)])).length c2)) ?_ ?_) ?_)
        · simp [execOp, ev_put_ne, ev_put_eq, put_size, e7, e8, e9, hsz]
        · exact run_storeRow _ _ _ _ _ _ _ _ rfl cvb fvb
        refine hK.out _ _ ?_ (fun hHeld => ?_)
        · exact ⟨(Inv.pull5 HR2.out).cell rfl, HR2.out.cell rfl⟩
        clear hK K
        refine wpAnyH_done (by kernel_rfl) ?_ _
        exact FIN.out
  case done =>
    intro D w3 hI
    rw [rtAll_len, Hhn.out] at hI
    have hsh := (Inv.pull4 hI).fact
    have ca := (Inv.pull6 hI).cell (off := 0) (v := .slice (some ⟨b0 + 1 + 1, 0, none⟩) p p) rfl
    have f0 := (Inv.pull8 hI).frozen (off := 0)
    have f1 := (Inv.pull7 hI).frozen (off := 0)
    have k0 := (Inv.pull8 hI).cell (off := 0) (v := .slice none 0 0) rfl
    have k1 := (Inv.pull7 hI).cell (off := 0) (v := .int .i64 0) rfl
    have h4 := Inv.pull2 ((Inv.pull8 ((Inv.pull8 hI).set1 (.slice (some ⟨b0 + 1 + 1, 0, none⟩) p p))).set1 (.int .i64 0))
    have hK4 := h4.heap
    have h5 := h4.putObj (.deferred none)
    have c0 := (Inv.pull2 h5).cell (off := 0) (v := .slice (some ⟨b0 + 1 + 1, 0, none⟩) p p) rfl
    have c1 := (Inv.pull1 h5).cell (off := 0) (v := .int .i64 0) rfl
    have H5 := Lib.hid h5
    have Hhsh := Lib.hid hsh
    clear hsh
    clear h4 h5 hI
    go_wp2
    refine ⟨by simp, .inl ⟨_, _, rfl, run_takeDeferred hK4, ?_⟩⟩
    refine ⟨.tuple #[.slice (some ⟨b0 + 1 + 1, 0, none⟩) p p, .int .i64 0], ?_, .inl ⟨Hhsh.out, b0 + 1 + 1, rfl, H5.out.drop.drop.drop.drop.drop.pull1.drop.pull2.drop.pull1⟩⟩
    simp [results, go_sem, c0, c1]
  case stop =>
    intro D cd k w3 hk hI
    obtain ⟨rfl, hns⟩ := (Inv.pull3 hI).fact
    have hK := Inv.heap hI
    have h5 := hI.putObj (.deferred none)
    have c0 := (Inv.pull2 h5).cell (off := 0) (v := .slice none 0 0) rfl
    have c1 := (Inv.pull1 h5).cell (off := 0) (v := .int .i64 3) rfl
    have H5 := Lib.hid h5
    have Hhns := Lib.hid hns
    clear hns
    clear hI h5
    refine wpIn_wide.2 ?_
    go_wp2
    refine ⟨by simp, .inl ⟨_, _, rfl, run_takeDeferred hK, ?_⟩⟩
    refine ⟨.tuple #[.slice none 0 0, .int .i64 3], ?_, .inr ⟨Hhns.out, rfl, H5.out.drop.drop.drop.drop⟩⟩
    simp [results, go_sem, c0, c1]
end Go.Proofs.Ytfkhnpkojnnfmaa
