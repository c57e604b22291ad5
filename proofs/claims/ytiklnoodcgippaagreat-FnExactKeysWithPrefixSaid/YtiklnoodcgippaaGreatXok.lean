/- What stands for Go's library in this program does what the library's text does; no condition. -/
import Derived.Test.YtiklnoodcgippaaGreatCode
import Derived.Test.YtiklnoodcgippaaGreatAed
import Derived.Test.YtiklnoodcgippaaGreatAec
import Derived.Test.YtiklnoodcgippaaGreatShelf
import Derived.Shelf.SlSortCmp.NoneTotal
set_option linter.unusedSimpArgs false
set_option linter.unusedVariables false
set_option linter.unusedSectionVars false
set_option linter.unusedVariables false
set_option linter.unusedSimpArgs false
namespace Go.AE
open Go.Sort Go.Proofs

noncomputable def Xc : Nat → Option Ext := fun f => if f = n_strings_Compare then some extCompare else none
noncomputable def Ec : Env := ⟨Tryz.prog, Xc⟩
def cfS (a b : Str) : Int := if a < b then -1 else if b < a then 1 else 0
def cfN (a b : Int) : Int := if a < b then -1 else if b < a then 1 else 0
def cfL (a b : Str) : Int := if cfN a.length b.length = 0 then cfS a b else cfN a.length b.length

theorem xCompare : ExtOk Tryz.prog n_strings_Compare extCompare :=
  extCompare_ok (enters_of Tryz.lays106.f106 (by kernel_rfl) rfl) (fun a b w => Any.strings_Compare Tryz.lays106 a b w)
theorem xc_ok : XOk Tryz.prog Xc := by
  intro f e h
  unfold Xc at h
  split at h
  · rename_i hf; cases h; rw [hf]; exact xCompare
  · cases h
theorem mixed : Tryz.prog.follows .mixedOrders = true := Tryz.lays106.mixed

theorem isNaN_c {H : AH} {a : Int} : ACalls Ec n_cmp_isNaN_int [.int .i64 a] H (Is (.bool false) H) := by
  refine ACalls_intro c_cmp_isNaN_int rfl (Nat.le_of_ble_eq_true rfl) ?_
  simp (disch := first | omega | assumption | (simp only [size_alloc, size_put] <;> omega) | (simp only [RK, Nat.reduceAdd] <;> omega) | fail) only [R1, R, Nat.reduceBEq, Nat.reduceAdd, b_cmp_isNaN_int, decide_true]
  exact .mk rfl
theorem cmpInt_c {H : AH} {a b : Int} : ACalls Ec n_cmp_Compare_int [.int .i64 a, .int .i64 b] H (Is (.int .i64 (cfN a b)) H) := by
  refine ACalls_intro c_cmp_Compare_int rfl (Nat.le_of_ble_eq_true rfl) ?_
  have e : ∀ {x : Int} {Q : CPost}, ACalls Ec 312 [.int .i64 x] H Q = Q (.bool false) H := isNaN_c.eq
  simp (disch := first | omega | assumption | (simp only [size_alloc, size_put] <;> omega) | (simp only [RK, Nat.reduceAdd] <;> omega) | fail) only [R1, R, Nat.reduceBEq, Nat.reduceAdd, b_cmp_Compare_int, e]
  refine ACond_split (fun h => ?_) (fun h => ?_)
  · simp only [decide_eq_true_eq] at h
    simp (disch := first | omega | assumption | (simp only [size_alloc, size_put] <;> omega) | (simp only [RK, Nat.reduceAdd] <;> omega) | fail) only [R1, R, Nat.reduceBEq, Nat.reduceAdd]
    exact .mk (by rw [cfN, if_pos h])
  · simp only [decide_eq_false_iff_not] at h
    simp (disch := first | omega | assumption | (simp only [size_alloc, size_put] <;> omega) | (simp only [RK, Nat.reduceAdd] <;> omega) | fail) only [R1, R, Nat.reduceBEq, Nat.reduceAdd]
    refine ACond_split (fun h2 => ?_) (fun h2 => ?_)
    · simp only [decide_eq_true_eq] at h2
      simp (disch := first | omega | assumption | (simp only [size_alloc, size_put] <;> omega) | (simp only [RK, Nat.reduceAdd] <;> omega) | fail) only [R1, R, Nat.reduceBEq, Nat.reduceAdd]
      exact .mk (by rw [cfN, if_neg h, if_pos h2])
    · simp only [decide_eq_false_iff_not] at h2
      simp (disch := first | omega | assumption | (simp only [size_alloc, size_put] <;> omega) | (simp only [RK, Nat.reduceAdd] <;> omega) | fail) only [R1, R, Nat.reduceBEq, Nat.reduceAdd]
      exact .mk (by rw [cfN, if_neg h, if_neg h2])
theorem or_c {H : AH} {v : Value} {a b : Int} (hS : Ints H v [a, b]) : ACalls Ec n_cmp_Or_int [v] H (Is (.int .i64 (if a = 0 then b else a)) H) := by
  refine ACalls_intro c_cmp_Or_int rfl (Nat.le_of_ble_eq_true rfl) ?_
  have hl : opLen false v = some (.int .i64 (2 : Nat)) := hS.len
  simp (disch := first | omega | assumption | (simp only [size_alloc, size_put] <;> omega) | (simp only [RK, Nat.reduceAdd] <;> omega) | fail) only [R1, R, Nat.reduceBEq, Nat.reduceAdd, b_cmp_Or_int, hl]
  refine AWP_for 2 (fun k t H' => H' = H ∧ t 3 = .int .i64 0 ∧ ∀ j, j < k → [a, b].getD j default = 0) rfl rfl (by omega) ⟨rfl, rfl, by omega⟩ rfl ?_ ?_
  · rintro k t H' hk hi hn hT ⟨rfl, h3, hI⟩
    have h6 : t 6 = v := hT 6 rfl
    have hk2 : (k : Int) < [a, b].length := by simp; omega
    have hk3 : k < [a, b].length := by simp; omega
    simp (disch := first | omega | assumption | (simp only [size_alloc, size_put] <;> omega) | (simp only [RK, Nat.reduceAdd] <;> omega) | fail) only [R1, R, Nat.reduceBEq, Nat.reduceAdd, L_cmp_Or_int_0, hi, h6, h3, hS.r]
    cases hd : decide ([a, b].getD k default = 0) with
    | true =>
      simp only [decide_eq_true_eq] at hd
      simp (disch := first | omega | assumption | (simp only [size_alloc, size_put] <;> omega) | (simp only [RK, Nat.reduceAdd] <;> omega) | fail) only [R1, R, Nat.reduceBEq, Nat.reduceAdd]
      exact ⟨trivial, h3, fun j hj => by
        rcases Nat.lt_or_eq_of_le (Nat.le_of_lt_succ hj) with h | rfl
        · exact hI j h
        · exact hd⟩
    | false =>
      simp only [decide_eq_false_iff_not] at hd
      simp (disch := first | omega | assumption | (simp only [size_alloc, size_put] <;> omega) | (simp only [RK, Nat.reduceAdd] <;> omega) | fail) only [R1, R, Nat.reduceBEq, Nat.reduceAdd]
      refine .mk ?_
      match k, hk with
      | 0, _ =>
        have : ¬ a = 0 := hd
        rw [if_neg this]; rfl
      | 1, _ =>
        have h0 : a = 0 := hI 0 (by omega)
        rw [if_pos h0]; rfl
  · rintro t H' hi hn hT ⟨rfl, h3, hI⟩
    simp (disch := first | omega | assumption | (simp only [size_alloc, size_put] <;> omega) | (simp only [RK, Nat.reduceAdd] <;> omega) | fail) only [R1, R, Nat.reduceBEq, Nat.reduceAdd, h3]
    have h0 : a = 0 := hI 0 (by omega)
    have h1 : b = 0 := hI 1 (by omega)
    exact .mk (by rw [if_pos h0, h1])
theorem bs2 {z x y : Value} {H : AH} (hx : x.cells = #[x]) (hy : y.cells = #[y]) : opBuildSlice 1 2 #[z] [(0, x), (1, y)] H = some (.slice (some ⟨H.size, 0, none⟩) 2 2, H.alloc ⟨[x, y], 1⟩) := by
  simp [opBuildSlice, Instr.fill, hx, hy]
  rfl
theorem closure_c {a b : Str} {H : AH} : ACalls Ec n_i_nodesFor_1 [sv a, sv b] H (fun v' _ => v' = .int .i64 (cfL a b)) := by
  refine ACalls_intro c_i_nodesFor_1 rfl (Nat.le_of_ble_eq_true rfl) ?_
  have e1 : ∀ {x y : Int} {Q : CPost}, ACalls Ec 288 [.int .i64 x, .int .i64 y] H Q = Q (.int .i64 (cfN x y)) H := cmpInt_c.eq
  have e2 : ∀ {Q : CPost}, ACalls Ec 289 [sv a, sv b] H Q = Q (.int .i64 (cfS a b)) H := ACalls.eq (ACalls_ext (e := extCompare) rfl rfl ⟨rfl, rfl⟩)
  simp (disch := first | omega | assumption | (simp only [size_alloc, size_put] <;> omega) | (simp only [RK, Nat.reduceAdd] <;> omega) | fail) only [R1, R, Nat.reduceBEq, Nat.reduceAdd, b_i_nodesFor_1, e1, e2, bs2]
  refine (or_c (Sl.fresh (get_alloc_self rfl) rfl rfl)).is ?_
  simp (disch := first | omega | assumption | (simp only [size_alloc, size_put] <;> omega) | (simp only [RK, Nat.reduceAdd] <;> omega) | fail) only [R1, R, Nat.reduceBEq, Nat.reduceAdd]
  rfl

theorem lt_cfS {a b : Str} : cfS a b < 0 ↔ a < b := by
  unfold cfS
  by_cases h : a < b
  · simp [h]
  · rw [if_neg h]; split <;> simp [h]
theorem ltOf_cfL {a b : Str} : ltOf cfL a b = decide (a.length < b.length ∨ (a.length = b.length ∧ a < b)) := by
  unfold ltOf
  rw [Bool.eq_iff_iff]
  simp only [decide_eq_true_eq]
  by_cases h1 : (a.length : Int) < b.length
  · have e : cfL a b = -1 := by
      have e1 : cfN a.length b.length = -1 := if_pos h1
      unfold cfL; rw [e1]; rfl
    rw [e]
    constructor
    · intro _; left; omega
    · intro _; omega
  · by_cases h2 : (b.length : Int) < a.length
    · have e : cfL a b = 1 := by
        have e1 : cfN a.length b.length = 1 := by rw [cfN, if_neg h1, if_pos h2]
        unfold cfL; rw [e1]; rfl
      rw [e]
      constructor
      · intro h; omega
      · rintro (h | h) <;> omega
    · have e : cfL a b = cfS a b := by
        have e1 : cfN a.length b.length = 0 := by rw [cfN, if_neg h1, if_neg h2]
        unfold cfL; rw [e1]; rfl
      rw [e, lt_cfS]
      constructor
      · intro h; right; exact ⟨by omega, h⟩
      · rintro (h | h)
        · omega
        · exact h.2
theorem swoL : SWO (ltOf cfL) where
  irrefl x := by rw [ltOf_cfL]; simp [List.lt_irrefl]
  trans x y z h1 h2 := by
    rw [ltOf_cfL, decide_eq_true_eq] at *
    rcases h1 with h1 | ⟨h1, h1'⟩ <;> rcases h2 with h2 | ⟨h2, h2'⟩
    · left; omega
    · left; omega
    · left; omega
    · right; exact ⟨by omega, List.lt_trans h1' h2'⟩
  ntrans x y z h1 h2 := by
    rw [ltOf_cfL, decide_eq_false_iff_not, not_or, not_and] at *
    refine ⟨by omega, fun he => ?_⟩
    have a1 := h1.2 (by omega)
    have a2 := h2.2 (by omega)
    intro h3
    by_cases h4 : y < x
    · exact a2 (List.lt_trans h4 h3)
    · have : x = y := List.le_antisymm h4 a1
      subst this; exact a2 h3
theorem totL (x y : Str) (h1 : ltOf cfL x y = false) (h2 : ltOf cfL y x = false) : x = y := by
  rw [ltOf_cfL, decide_eq_false_iff_not, not_or, not_and] at *
  exact List.le_antisymm (h2.2 (by omega)) (h1.2 (by omega))
theorem leL_cf : (fun x y : Str => !(ltOf cfL) y x) = leL := by
  funext x y
  rw [ltOf_cfL]
  simp only [leL, leS]
  rw [Bool.eq_iff_iff]
  simp only [Bool.not_eq_true', decide_eq_false_iff_not, Bool.or_eq_true, Bool.and_eq_true, decide_eq_true_eq, not_or, not_and]
  constructor
  · rintro ⟨h1, h2⟩
    by_cases h : x.length < y.length
    · exact .inl h
    · exact .inr ⟨by omega, h2 (by omega)⟩
  · rintro (h | ⟨h1, h2⟩)
    · exact ⟨by omega, fun e => by omega⟩
    · exact ⟨by omega, fun _ => h2⟩

theorem cmpLays (blk off size : Nat) (w : World) : CmpLays1 Tryz.prog n_i_nodesFor_1 #[] sv cfL blk off size w := by
  intro m os dk _ x y
  have := calls_plain (X := Xc) mixed xc_ok (f := n_i_nodesFor_1) (args := [sv x, sv y]) (args' := [sv x, sv y]) (w := sortWorld sv w blk off m dk os) (.cons (.string _) (.cons (.string _) (.nil _))) (fun ι v' h => by cases h; rfl)
    (enters_of Tryz.func286 (by kernel_rfl) rfl _ _) (closure_c (a := x) (b := y))
  exact this
theorem xSort : ExtOk Tryz.prog n_slices_Sort_Lstring_string extSort :=
  extSort_ok (enters_of Tryz.lays190.f190 (by kernel_rfl) rfl) (fun blk off cap ss w h1 h2 h3 => Any.slices_Sort_string Tryz.lays190 blk off cap ss w h1 h2 h3) (fun a cap w => Any.slices_Sort_string_none Tryz.lays190 a cap w)
theorem xSortFunc : ExtOk Tryz.prog n_slices_SortFunc_Lstring_string (extSortBy n_i_nodesFor_1 leL) := by
  refine extSortBy_ok (Tryz.sortFS.f6.enters rfl) (fun blk off cap ss w h1 h2 h3 => ?_) (fun a cap w => AnyF.slices_SortFunc_none { Tryz.sortFS with } a cap _ w)
  have := Any.slices_SortFunc_total Tryz.sortFS sv (fun _ => rfl) cfL swoL n_i_nodesFor_1 #[] blk off cap ss.toArray w (enters_of Tryz.func286 (by kernel_rfl) rfl) (cmpLays _ _ _ _) h1 h2 (by simpa using h3) totL
  rw [leL_cf] at this
  simp only [List.size_toArray, List.toList_toArray] at this
  exact this
theorem xCompact : ExtOk Tryz.prog n_slices_Compact_Lstring_string extCompact :=
  extCompact_isok (enters_of Tryz.lays194.f194 (by kernel_rfl) rfl) (fun blk off cap ss w h1 h2 h3 => Any.slices_Compact_string Tryz.lays194 blk off cap ss w h1 h2 h3) (fun a cap w => Any.slices_Compact_string_empty Tryz.lays194 a cap w)
theorem xz_ok : XOk Tryz.prog Xz := by
  intro f e h
  unfold Xz at h
  split at h
  · rename_i hf; cases h; rw [hf]; exact xSort
  · split at h
    · rename_i hf; cases h; rw [hf]; exact xSortFunc
    · split at h
      · rename_i hf; cases h; rw [hf]; exact xCompare
      · split at h
        · rename_i hf; cases h; rw [hf]; exact xCompact
        · cases h
end Go.AE
