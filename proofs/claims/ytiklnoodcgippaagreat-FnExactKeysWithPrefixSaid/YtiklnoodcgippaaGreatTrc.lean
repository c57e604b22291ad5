/- Keys of a trie as the program tells them, and places in rising lists; no condition. Children in a trie, and numbers of keys; no condition. The index of a key in a trie; no condition. The laws of a trie with two plain results: they return true; no condition. -/
import Derived.Test.YtiklnoodcgippaaGreatTrb
set_option linter.unusedSimpArgs false
set_option linter.unusedVariables false
set_option linter.unusedSectionVars false
set_option linter.unusedVariables false
set_option linter.unusedSimpArgs false
namespace Go.AE
variable {H : AH}

theorem nil_eql {c : Bool} : opBin 2 c .eql (.slice none 0 0) (.slice none 0 0) = some (.bool true) := rfl
theorem some_eql {c : Bool} {a : Addr} {n m : Nat} : opBin 2 c .eql (.slice (some a) n m) (.slice none 0 0) = some (.bool false) := rfl

def KeysI (H : AH) (T : TrieT) : CPost := fun v' H' => Kp H H' ∧ match trieV T with
  | some keys => ∃ w, v' = .tuple #[w, .bool true] ∧ Own sv H.size H' w keys
  | none => v' = .tuple #[.slice none 0 0, .bool false]
theorem keys_ok {b es : Nat} {T : TrieT} {v1 v2 : Value} (hL : Wf H) (hg : H.get b = some ⟨trieC T v1 v2, es⟩) (hT : TrieAt H T v1 v2) :
    ACalls Ez n_i_Trie_keys [.pointer (some ⟨b, 0, none⟩)] H (KeysI H T) := by
  refine k_i_Trie_keys rfl ?_
  simp (disch := first | omega | assumption | (simp only [size_alloc, size_put] <;> omega) | (simp only [RK, Nat.reduceAdd] <;> omega) | fail) only [R1, R, Nat.reduceBEq, Nat.reduceAdd, b_i_Trie_keys]
  refine (nodes_ok hL hg hT).imp ?_
  rintro w H1 ⟨hK1, hm⟩
  cases hv : trieV T with
  | none =>
    rw [hv] at hm
    subst hm
    simp (disch := first | omega | assumption | (simp only [size_alloc, size_put] <;> omega) | (simp only [RK, Nat.reduceAdd] <;> omega) | fail) only [R1, R, Nat.reduceBEq, Nat.reduceAdd, nil_eql]
    refine ⟨hK1, ?_⟩
    rw [hv]
  | some keys =>
    rw [hv] at hm
    have his := trieV_some.mp hv
    have hlen := nodesOf_len his.1
    obtain ⟨a, n, c, rfl⟩ := own_some hm nodesOf_pos
    have hel : (endsOf keys (nodesOf keys)).length ≤ 4096 := by rw [endsOf, List.length_map]; omega
    simp (disch := first | omega | assumption | (simp only [size_alloc, size_put] <;> omega) | (simp only [RK, Nat.reduceAdd] <;> omega) | fail) only [R1, R, Nat.reduceBEq, Nat.reduceAdd, some_eql]
    refine (ends_ok (hK1.wf hL) (hK1.get hg) (hT.kp hK1) his.bits hel hm.1 (by omega)).imp ?_
    rintro u H2 ⟨hO, hK2⟩
    rw [pick_ends, sort_ends his.1] at hO
    simp (disch := first | omega | assumption | (simp only [size_alloc, size_put] <;> omega) | (simp only [RK, Nat.reduceAdd] <;> omega) | fail) only [R1, R, Nat.reduceBEq, Nat.reduceAdd]
    refine ⟨hK1.trans hK2, ?_⟩
    rw [hv]
    exact ⟨u, rfl, hO.to hK1.size⟩

/-! ### places in rising lists -/

def rankS (l : List Str) (s : Str) : Nat := (l.filter fun x => decide (x < s)).length
theorem rankS_at {l : List Str} {s : Str} {i : Nat} (hi : i ≤ l.length) (h1 : ∀ k, k < i → l.getD k default < s) (h2 : ∀ k, i ≤ k → k < l.length → ¬ l.getD k default < s) : rankS l s = i := by
  have e : l.filter (fun x => decide (x < s)) = l.take i := by
    conv => lhs; rw [← List.take_append_drop i l, List.filter_append]
    have a1 : (l.take i).filter (fun x => decide (x < s)) = l.take i := by
      rw [List.filter_eq_self]
      intro x hx
      obtain ⟨k, hk, rfl⟩ := List.getElem_of_mem hx
      rw [List.length_take] at hk
      have := h1 k (by omega)
      rw [getD_eq (by omega)] at this
      rw [List.getElem_take]
      exact decide_eq_true this
    have a2 : (l.drop i).filter (fun x => decide (x < s)) = [] := by
      rw [List.filter_eq_nil_iff]
      intro x hx
      obtain ⟨k, hk, rfl⟩ := List.getElem_of_mem hx
      rw [List.length_drop] at hk
      have := h2 (i + k) (by omega) (by omega)
      rw [getD_eq (by omega)] at this
      rw [List.getElem_drop]
      simpa using this
    rw [a1, a2, List.append_nil]
  rw [rankS, e, List.length_take]; omega
theorem isNaN_eq {s : Str} {Q : CPost} : ACalls Ez 247 [sv s] H Q = Q (.bool false) H := by
  refine ACalls.eq (k_slices_isNaN_string rfl ?_)
  simp (disch := first | omega | assumption | (simp only [size_alloc, size_put] <;> omega) | (simp only [RK, Nat.reduceAdd] <;> omega) | fail) only [R1, R, Nat.reduceBEq, Nat.reduceAdd, b_slices_isNaN_string, decide_true]
  exact .mk rfl
theorem cisNaN_eq {s : Str} {Q : CPost} : ACalls Ez 284 [sv s] H Q = Q (.bool false) H := by
  refine ACalls.eq (k_cmp_isNaN_string rfl ?_)
  simp (disch := first | omega | assumption | (simp only [size_alloc, size_put] <;> omega) | (simp only [RK, Nat.reduceAdd] <;> omega) | fail) only [R1, R, Nat.reduceBEq, Nat.reduceAdd, b_cmp_isNaN_string, decide_true]
  exact .mk rfl
theorem Less_eq {a b : Str} {Q : CPost} : ACalls Ez 246 [sv a, sv b] H Q = Q (.bool (decide (a < b))) H := by
  refine ACalls.eq (k_cmp_Less_string rfl ?_)
  simp (disch := first | omega | assumption | (simp only [size_alloc, size_put] <;> omega) | (simp only [RK, Nat.reduceAdd] <;> omega) | fail) only [R1, R, Nat.reduceBEq, Nat.reduceAdd, b_cmp_Less_string, cisNaN_eq]
  exact .mk rfl
theorem u_shr1 {kd : Nat} {c : Bool} {n : Int} (h : 0 ≤ n ∧ n < 9223372036854775808) : opBin kd c .shr (.int .u64 n) (.int .u64 1) = some (.int .u64 (n / 2)) := by
  simp only [opBin, IntKind.bits]
  rw [if_neg (by omega), Int.fdiv_eq_ediv_of_nonneg _ (by decide)]
  rfl
theorem BinarySearch_ok {v : Value} {l : List Str} {s : Str} (hS : Strs H v l) (hl : l.length ≤ 1099511627776) (hs : l.Pairwise (· < ·)) :
    ACalls Ez n_slices_BinarySearch_Lstring_string [v, sv s] H (Is (.tuple #[.int .i64 (rankS l s), .bool (decide (rankS l s < l.length) && decide (l.getD (rankS l s) default = s))]) H) := by
  refine k_slices_BinarySearch_Lstring_string rfl ?_
  simp (disch := first | omega | assumption | (simp only [size_alloc, size_put] <;> omega) | (simp only [RK, Nat.reduceAdd] <;> omega) | fail) only [R1, R, Nat.reduceBEq, Nat.reduceAdd, b_slices_BinarySearch_Lstring_string, hS.r]
  refine AWP_loopS (fun m t H' => ∃ i j, m = j - i ∧ i ≤ j ∧ j ≤ l.length ∧ t 7 = .int .i64 (i : Nat) ∧ t 8 = .int .i64 (j : Nat) ∧ H' = H ∧ (∀ k, k < i → l.getD k default < s) ∧ ∀ k, j ≤ k → k < l.length → ¬ l.getD k default < s) l.length ⟨0, l.length, rfl, Nat.zero_le _, Nat.le_refl _, rfl, rfl, rfl, by omega, by omega⟩ ?_
  rintro m t H' hT ⟨i, j, rfl, hij, hj, h7, h8, rfl, hlo, hhi⟩
  have h0 : t 0 = v := hT 0 rfl
  have h1 : t 1 = sv s := hT 1 rfl
  have h6 : t 6 = .int .i64 l.length := hT 6 rfl
  have hmono : ∀ a b, a < b → b < l.length → l.getD a default < l.getD b default := by
    intro a b hab hb
    have := List.pairwise_iff_getElem.mp hs a b (by omega) hb hab
    rwa [getD_eq (by omega), getD_eq hb]
  simp (disch := first | omega | assumption | (simp only [size_alloc, size_put] <;> omega) | (simp only [RK, Nat.reduceAdd] <;> omega) | fail) only [R1, R, Nat.reduceBEq, Nat.reduceAdd, L_slices_BinarySearch_Lstring_string_0, h7, h8]
  refine ACond_split (fun hc => ?_) (fun hc => ?_)
  · simp only [decide_eq_true_eq, Int.ofNat_lt] at hc
    have eh : (((i : Int) + j) / 2) = ((((i + j) / 2 : Nat) : Nat) : Int) := by omega
    have hh1 : (i + j) / 2 < l.length := by omega
    simp (disch := first | omega | assumption | (simp only [size_alloc, size_put] <;> omega) | (simp only [RK, Nat.reduceAdd] <;> omega) | fail) only [R1, R, Nat.reduceBEq, Nat.reduceAdd, h7, h8, wrapu, u_shr1, eh, h0, h1, hS.r, Less_eq]
    refine ACond_split (fun hd => ?_) (fun hd => ?_)
    · simp only [decide_eq_true_eq] at hd
      simp (disch := first | omega | assumption | (simp only [size_alloc, size_put] <;> omega) | (simp only [RK, Nat.reduceAdd] <;> omega) | fail) only [R1, R, Nat.reduceBEq, Nat.reduceAdd, h8]
      refine ⟨j - ((i + j) / 2 + 1), by omega, (i + j) / 2 + 1, j, rfl, by omega, hj, by congr 1, rfl, trivial, fun k hk => ?_, hhi⟩
      rcases Nat.lt_or_eq_of_le (Nat.le_of_lt_succ hk) with h | h
      · exact List.lt_trans (hmono k _ h hh1) hd
      · rw [h]; exact hd
    · simp only [decide_eq_false_iff_not] at hd
      simp (disch := first | omega | assumption | (simp only [size_alloc, size_put] <;> omega) | (simp only [RK, Nat.reduceAdd] <;> omega) | fail) only [R1, R, Nat.reduceBEq, Nat.reduceAdd, h7]
      refine ⟨(i + j) / 2 - i, by omega, i, (i + j) / 2, rfl, by omega, by omega, rfl, rfl, trivial, hlo, fun k hk hkl => ?_⟩
      rcases Nat.lt_or_eq_of_le hk with h | h
      · intro h2; exact hd (List.lt_trans (hmono _ k h hkl) h2)
      · rw [← h]; exact hd
  · simp only [decide_eq_false_iff_not, Int.ofNat_lt] at hc
    have hije : i = j := by omega
    subst hije
    have hr := rankS_at hj hlo hhi
    have hfin : Is (.tuple #[.int .i64 (rankS l s), .bool (decide (rankS l s < l.length) && decide (l.getD (rankS l s) default = s))]) H' (.tuple #[.int .i64 i, .bool (decide (i < l.length) && decide (l.getD i default = s))]) H' := by
      rw [hr]; exact .mk rfl
    by_cases hlt : i < l.length
    · have hd : decide ((i : Int) < l.length) = true := decide_eq_true (by omega)
      have e1 : decide (i < l.length) = true := decide_eq_true hlt
      rw [e1, Bool.true_and] at hfin
      simp (disch := first | omega | assumption | (simp only [size_alloc, size_put] <;> omega) | (simp only [RK, Nat.reduceAdd] <;> omega) | fail) only [R1, R, Nat.reduceBEq, Nat.reduceAdd, h7, h6, hd, h0, h1, hS.r]
      cases he : decide (l.getD i default = s) with
      | true =>
        rw [he] at hfin
        simp (disch := first | omega | assumption | (simp only [size_alloc, size_put] <;> omega) | (simp only [RK, Nat.reduceAdd] <;> omega) | fail) only [R1, R, Nat.reduceBEq, Nat.reduceAdd]
        exact hfin
      | false =>
        rw [he] at hfin
        simp (disch := first | omega | assumption | (simp only [size_alloc, size_put] <;> omega) | (simp only [RK, Nat.reduceAdd] <;> omega) | fail) only [R1, R, Nat.reduceBEq, Nat.reduceAdd, h0, h1, h7, hS.r, isNaN_eq]
        exact hfin
    · have hd : decide ((i : Int) < l.length) = false := decide_eq_false (by omega)
      have e1 : decide (i < l.length) = false := decide_eq_false hlt
      rw [e1, Bool.false_and] at hfin
      simp (disch := first | omega | assumption | (simp only [size_alloc, size_put] <;> omega) | (simp only [RK, Nat.reduceAdd] <;> omega) | fail) only [R1, R, Nat.reduceBEq, Nat.reduceAdd, h7, h6, hd]
      exact hfin
theorem BinarySearch_eq {v : Value} {l : List Str} {s : Str} {Q : CPost} (hS : Strs H v l) (hl : l.length ≤ 1099511627776) (hs : l.Pairwise (· < ·)) :
    ACalls Ez 177 [v, sv s] H Q = Q (.tuple #[.int .i64 (rankS l s), .bool (decide (rankS l s < l.length) && decide (l.getD (rankS l s) default = s))]) H := (BinarySearch_ok hS hl hs).eq
theorem trRank_eq {v : Value} {l : List Str} {s : Str} {Q : CPost} (hS : Strs H v l) (hl : l.length ≤ 1099511627776) : ACalls Ez 175 [v, sv s] H Q = Q (.int .i64 (rankS l s)) H := by
  refine ACalls.eq (k_s_trRank rfl ?_)
  simp (disch := first | omega | assumption | (simp only [size_alloc, size_put] <;> omega) | (simp only [RK, Nat.reduceAdd] <;> omega) | fail) only [R1, R, Nat.reduceBEq, Nat.reduceAdd, b_s_trRank, hS.r]
  refine AWP_for l.length (fun k t H' => H' = H ∧ t 5 = .int .i64 (rankS (l.take k) s)) rfl rfl (by omega) ⟨rfl, rfl⟩ rfl ?_ ?_
  · rintro k t H' hk hi hn hT ⟨rfl, h5⟩
    have h8 : t 8 = v := hT 8 rfl
    have h1 : t 1 = sv s := hT 1 rfl
    have hr : rankS (l.take k) s ≤ k := Nat.le_trans (List.length_filter_le _ _) (by simp; omega)
    have hstep : rankS (l.take (k + 1)) s = rankS (l.take k) s + (if l.getD k default < s then 1 else 0) := by
      rw [rankS, take_succ_getD hk, List.filter_append, List.length_append]
      congr 1
      generalize l.getD k default = x
      by_cases h : x < s
      · simp [h, List.filter_cons]
      · simp [h, List.filter_cons]
    simp (disch := first | omega | assumption | (simp only [size_alloc, size_put] <;> omega) | (simp only [RK, Nat.reduceAdd] <;> omega) | fail) only [R1, R, Nat.reduceBEq, Nat.reduceAdd, L_s_trRank_0, hi, h8, h1, h5, hS.r]
    refine ACond_split (fun h => ?_) (fun h => ?_)
    · simp only [decide_eq_true_eq] at h
      simp (disch := first | omega | assumption | (simp only [size_alloc, size_put] <;> omega) | (simp only [RK, Nat.reduceAdd] <;> omega) | fail) only [R1, R, Nat.reduceBEq, Nat.reduceAdd, h5]
      exact ⟨trivial, by rw [hstep, if_pos h]; congr 1⟩
    · simp only [decide_eq_false_iff_not] at h
      simp (disch := first | omega | assumption | (simp only [size_alloc, size_put] <;> omega) | (simp only [RK, Nat.reduceAdd] <;> omega) | fail) only [R1, R, Nat.reduceBEq, Nat.reduceAdd, h5]
      exact ⟨trivial, by rw [hstep, if_neg h]; rfl⟩
  · rintro t H' hi hn hT ⟨rfl, h5⟩
    rw [List.take_length] at h5
    simp (disch := first | omega | assumption | (simp only [size_alloc, size_put] <;> omega) | (simp only [RK, Nat.reduceAdd] <;> omega) | fail) only [R1, R, Nat.reduceBEq, Nat.reduceAdd, h5]
    exact .mk rfl

noncomputable def rankR (T : TrieT) (s : Str) : Int × Bool := match trieV T with | some keys => (rankS keys s, true) | none => (0, false)
theorem iTrieRank_ok {T : TrieT} {v1 v2 : Value} {s : Str} (hL : Wf H) (hT : TrieAt H T v1 v2) :
    ACalls Ez n_i_TrieRank [.agg #[.int .i64 T.n, v1, .int .i64 T.m, v2, sv T.lb], sv s] H (PairP H (rankR T s)) := by
  refine k_i_TrieRank rfl ?_
  generalize hHA : H.alloc ⟨[.int .i64 T.n, v1, .int .i64 T.m, v2, sv T.lb], 0⟩ = HA
  have hKA : Kp H HA := by rw [← hHA]; exact Kp.refl.alloc
  have hg : HA.get H.size = some ⟨trieC T v1 v2, 0⟩ := by rw [← hHA]; exact get_alloc_self rfl
  simp (disch := first | omega | assumption | (simp only [size_alloc, size_put] <;> omega) | (simp only [RK, Nat.reduceAdd] <;> omega) | fail) only [R1, R, Nat.reduceBEq, Nat.reduceAdd, b_i_TrieRank, hHA]
  refine (keys_ok (hKA.wf hL) hg (hT.kp hKA)).imp ?_
  rintro v' H1 ⟨hK1, hm⟩
  unfold rankR
  cases hv : trieV T with
  | none =>
    rw [hv] at hm
    subst hm
    simp (disch := first | omega | assumption | (simp only [size_alloc, size_put] <;> omega) | (simp only [RK, Nat.reduceAdd] <;> omega) | fail) only [R1, R, Nat.reduceBEq, Nat.reduceAdd]
    rw [BinarySearch_eq (l := []) .nil (by simp) .nil]
    simp (disch := first | omega | assumption | (simp only [size_alloc, size_put] <;> omega) | (simp only [RK, Nat.reduceAdd] <;> omega) | fail) only [R1, R, Nat.reduceBEq, Nat.reduceAdd]
    exact ⟨rfl, hKA.trans hK1⟩
  | some keys =>
    rw [hv] at hm
    obtain ⟨w, rfl, hO⟩ := hm
    have hk := (trieV_some.mp hv).1
    have hkl := areKeys_len hk
    simp (disch := first | omega | assumption | (simp only [size_alloc, size_put] <;> omega) | (simp only [RK, Nat.reduceAdd] <;> omega) | fail) only [R1, R, Nat.reduceBEq, Nat.reduceAdd]
    rw [BinarySearch_eq hO.1 (by omega) (areKeys_sorted hk)]
    simp (disch := first | omega | assumption | (simp only [size_alloc, size_put] <;> omega) | (simp only [RK, Nat.reduceAdd] <;> omega) | fail) only [R1, R, Nat.reduceBEq, Nat.reduceAdd]
    exact ⟨rfl, hKA.trans hK1⟩
theorem sTrieRank_ok {T : TrieT} {v1 v2 : Value} {s : Str} (hL : Wf H) (hT : TrieAt H T v1 v2) :
    ACalls Ez n_s_TrieRank [.agg #[.int .i64 T.n, v1, .int .i64 T.m, v2, sv T.lb], sv s] H (PairP H (rankR T s)) := by
  refine k_s_TrieRank rfl ?_
  generalize hHA : H.alloc ⟨[.int .i64 T.n, v1, .int .i64 T.m, v2, sv T.lb], 0⟩ = HA
  have hKA : Kp H HA := by rw [← hHA]; exact Kp.refl.alloc
  have hg : HA.get H.size = some ⟨trieC T v1 v2, 0⟩ := by rw [← hHA]; exact get_alloc_self rfl
  have hld := trie_ld hg
  simp (disch := first | omega | assumption | (simp only [size_alloc, size_put] <;> omega) | (simp only [RK, Nat.reduceAdd] <;> omega) | fail) only [R1, R, Nat.reduceBEq, Nat.reduceAdd, b_s_TrieRank, hHA, hld]
  refine (trKeys_ok (hKA.wf hL) (hT.kp hKA)).imp ?_
  rintro v' H1 ⟨hK1, hm⟩
  unfold rankR
  cases hv : trieV T with
  | none =>
    rw [hv] at hm
    obtain ⟨w, rfl⟩ := hm
    simp (disch := first | omega | assumption | (simp only [size_alloc, size_put] <;> omega) | (simp only [RK, Nat.reduceAdd] <;> omega) | fail) only [R1, R, Nat.reduceBEq, Nat.reduceAdd]
    exact ⟨rfl, hKA.trans hK1⟩
  | some keys =>
    rw [hv] at hm
    obtain ⟨w, rfl, hS⟩ := hm
    have hkl := areKeys_len (trieV_some.mp hv).1
    simp (disch := first | omega | assumption | (simp only [size_alloc, size_put] <;> omega) | (simp only [RK, Nat.reduceAdd] <;> omega) | fail) only [R1, R, Nat.reduceBEq, Nat.reduceAdd]
    rw [trRank_eq hS (by omega)]
    simp (disch := first | omega | assumption | (simp only [size_alloc, size_put] <;> omega) | (simp only [RK, Nat.reduceAdd] <;> omega) | fail) only [R1, R, Nat.reduceBEq, Nat.reduceAdd]
    exact ⟨rfl, hKA.trans hK1⟩
end Go.AE
set_option linter.unusedVariables false
set_option linter.unusedSimpArgs false
namespace Go.AE
variable {H : AH}

theorem wrap_u8 {n : Int} (h : 0 ≤ n ∧ n ≤ 255) : IntKind.u8.wrap n = (UInt8.ofNat n.toNat).toNat := by
  rw [wrap8 (by omega)]
  have : (UInt8.ofNat n.toNat).toNat = n.toNat := by rw [UInt8.toNat_ofNat']; omega
  rw [this]; omega
theorem b2s_one {H : AH} {b : UInt8} : opBytesToStr (.slice (some ⟨H.size, 0, none⟩) 1 1) (H.alloc ⟨[.int .u8 b.toNat], 1⟩) = some (sv [b]) :=
  Sl.b2s (l := [b]) (Sl.fresh (get_alloc_self rfl) rfl rfl)

noncomputable def childR (T : TrieT) (i c : Int) : Int × Bool :=
  match trieV T with
  | some keys => if (0 ≤ i ∧ i ≤ (nodesOf keys).length - 1) ∧ (0 ≤ c ∧ c ≤ 255) ∧ 0 ≤ fnd (nodesOf keys) ((nodesOf keys).getD i.toNat default ++ [UInt8.ofNat c.toNat]) then (fnd (nodesOf keys) ((nodesOf keys).getD i.toNat default ++ [UInt8.ofNat c.toNat]), true) else (0, false)
  | none => (0, false)
theorem iChildOf_ok {T : TrieT} {v1 v2 : Value} {i c : Int} (hL : Wf H) (hT : TrieAt H T v1 v2) :
    ACalls Ez n_i_ChildOf [.agg #[.int .i64 T.n, v1, .int .i64 T.m, v2, sv T.lb], .int .i64 i, .int .i64 c] H (PairP H (childR T i c)) := by
  refine k_i_ChildOf rfl ?_
  generalize hHA : H.alloc ⟨[.int .i64 T.n, v1, .int .i64 T.m, v2, sv T.lb], 0⟩ = HA
  have hKA : Kp H HA := by rw [← hHA]; exact Kp.refl.alloc
  have hg : HA.get H.size = some ⟨trieC T v1 v2, 0⟩ := by rw [← hHA]; exact get_alloc_self rfl
  simp (disch := first | omega | assumption | (simp only [size_alloc, size_put] <;> omega) | (simp only [RK, Nat.reduceAdd] <;> omega) | fail) only [R1, R, Nat.reduceBEq, Nat.reduceAdd, b_i_ChildOf, hHA]
  refine (nodeAt_ok (hKA.wf hL) hg (hT.kp hKA)).imp ?_
  rintro v' H1 ⟨hK1, hm⟩
  unfold childR
  cases hv : trieV T with
  | none =>
    rw [hv] at hm
    subst hm
    simp (disch := first | omega | assumption | (simp only [size_alloc, size_put] <;> omega) | (simp only [RK, Nat.reduceAdd] <;> omega) | fail) only [R1, R, Nat.reduceBEq, Nat.reduceAdd]
    exact ⟨rfl, hKA.trans hK1⟩
  | some keys =>
    rw [hv] at hm
    simp only at hm ⊢
    have hlen := nodesOf_len (trieV_some.mp hv).1
    by_cases hi : 0 ≤ i ∧ i ≤ (nodesOf keys).length - 1
    · rw [if_pos hi] at hm
      obtain ⟨w, rfl, hS⟩ := hm
      simp (disch := first | omega | assumption | (simp only [size_alloc, size_put] <;> omega) | (simp only [RK, Nat.reduceAdd] <;> omega) | fail) only [R1, R, Nat.reduceBEq, Nat.reduceAdd, in_eq]
      by_cases hc : 0 ≤ c ∧ c ≤ 255
      · have hb : i.toNat < (nodesOf keys).length := by omega
        have hnl : ((nodesOf keys).getD i.toNat default).length ≤ 12 := by rw [getD_eq hb]; exact hlen.2 _ (List.getElem_mem hb)
        have hcc : (decide (0 ≤ c) && decide (c ≤ 255)) = true := by rw [decide_eq_true hc.1, decide_eq_true hc.2]; rfl
        have hK2 : Kp H1 (H1.alloc ⟨[.int .u8 (UInt8.ofNat c.toNat).toNat], 1⟩) := Kp.refl.alloc
        simp (disch := first | omega | assumption | (simp only [size_alloc, size_put] <;> omega) | (simp only [RK, Nat.reduceAdd, List.length_singleton] <;> omega) | fail) only [R1, R, Nat.reduceBEq, Nat.reduceAdd, hcc, wrap_u8 hc, b2s_one, List.length_singleton]
        rw [placedAt_eq (hS.kp hK2) (by omega)]
        simp (disch := first | omega | assumption | (simp only [size_alloc, size_put] <;> omega) | (simp only [RK, Nat.reduceAdd] <;> omega) | fail) only [R1, R, Nat.reduceBEq, Nat.reduceAdd]
        refine ⟨?_, hKA.trans (hK1.trans hK2)⟩
        by_cases hf : 0 ≤ fnd (nodesOf keys) ((nodesOf keys).getD i.toNat default ++ [UInt8.ofNat c.toNat])
        · rw [if_neg (Int.not_lt.mpr hf), if_pos ⟨hi, hc, hf⟩, decide_eq_true hf]
        · rw [if_pos (Int.not_le.mp hf), if_neg (fun h => hf h.2.2), decide_eq_false hf]
      · have hcc : (decide (0 ≤ c) && decide (c ≤ 255)) = false := by
          rw [Bool.and_eq_false_iff, decide_eq_false_iff_not, decide_eq_false_iff_not]; omega
        simp (disch := first | omega | assumption | (simp only [size_alloc, size_put] <;> omega) | (simp only [RK, Nat.reduceAdd] <;> omega) | fail) only [R1, R, Nat.reduceBEq, Nat.reduceAdd, hcc]
        refine ⟨?_, hKA.trans hK1⟩
        rw [if_neg (fun h => hc h.2.1)]
    · rw [if_neg hi] at hm
      subst hm
      simp (disch := first | omega | assumption | (simp only [size_alloc, size_put] <;> omega) | (simp only [RK, Nat.reduceAdd] <;> omega) | fail) only [R1, R, Nat.reduceBEq, Nat.reduceAdd]
      refine ⟨?_, hKA.trans hK1⟩
      rw [if_neg (fun h => hi h.1)]
theorem sChildOf_ok {T : TrieT} {v1 v2 : Value} {i c : Int} (hL : Wf H) (hT : TrieAt H T v1 v2) :
    ACalls Ez n_s_ChildOf [.agg #[.int .i64 T.n, v1, .int .i64 T.m, v2, sv T.lb], .int .i64 i, .int .i64 c] H (PairP H (childR T i c)) := by
  refine k_s_ChildOf rfl ?_
  generalize hHA : H.alloc ⟨[.int .i64 T.n, v1, .int .i64 T.m, v2, sv T.lb], 0⟩ = HA
  have hKA : Kp H HA := by rw [← hHA]; exact Kp.refl.alloc
  have hg : HA.get H.size = some ⟨trieC T v1 v2, 0⟩ := by rw [← hHA]; exact get_alloc_self rfl
  have hld := trie_ld hg
  simp (disch := first | omega | assumption | (simp only [size_alloc, size_put] <;> omega) | (simp only [RK, Nat.reduceAdd] <;> omega) | fail) only [R1, R, Nat.reduceBEq, Nat.reduceAdd, b_s_ChildOf, hHA, hld]
  refine (trOk_ok (hKA.wf hL) (hT.kp hKA)).imp ?_
  rintro v' H1 ⟨hK1, hm⟩
  unfold childR
  cases hv : trieV T with
  | none =>
    rw [hv] at hm
    subst hm
    simp (disch := first | omega | assumption | (simp only [size_alloc, size_put] <;> omega) | (simp only [RK, Nat.reduceAdd] <;> omega) | fail) only [R1, R, Nat.reduceBEq, Nat.reduceAdd]
    exact ⟨rfl, hKA.trans hK1⟩
  | some keys =>
    rw [hv] at hm
    obtain ⟨w, rfl, hS⟩ := hm
    simp only
    have hlen := nodesOf_len (trieV_some.mp hv).1
    simp (disch := first | omega | assumption | (simp only [size_alloc, size_put] <;> omega) | (simp only [RK, Nat.reduceAdd] <;> omega) | fail) only [R1, R, Nat.reduceBEq, Nat.reduceAdd, hS.r, l1In_eq]
    by_cases hi : 0 ≤ i ∧ i ≤ (nodesOf keys).length - 1
    · have hii : (decide (0 ≤ i) && decide (i ≤ ((nodesOf keys).length : Int) - 1)) = true := by
        rw [decide_eq_true hi.1, decide_eq_true hi.2]; rfl
      have hb : i.toNat < (nodesOf keys).length := by omega
      have hnl : ((nodesOf keys).getD i.toNat default).length ≤ 12 := by rw [getD_eq hb]; exact hlen.2 _ (List.getElem_mem hb)
      simp (disch := first | omega | assumption | (simp only [size_alloc, size_put] <;> omega) | (simp only [RK, Nat.reduceAdd] <;> omega) | fail) only [R1, R, Nat.reduceBEq, Nat.reduceAdd, hii, l1In_eq]
      by_cases hc : 0 ≤ c ∧ c ≤ 255
      · have hcc : (decide (0 ≤ c) && decide (c ≤ 255)) = true := by rw [decide_eq_true hc.1, decide_eq_true hc.2]; rfl
        have hK2 : Kp H1 (H1.alloc ⟨[.int .u8 (UInt8.ofNat c.toNat).toNat], 1⟩) := Kp.refl.alloc
        simp (disch := first | omega | assumption | (simp only [size_alloc, size_put] <;> omega) | (simp only [RK, Nat.reduceAdd, List.length_singleton] <;> omega) | fail) only [R1, R, Nat.reduceBEq, Nat.reduceAdd, hcc, wrap_u8 hc, b2s_one, hS.r, List.length_singleton]
        rw [trFind_eq (hS.kp hK2) (by omega)]
        simp (disch := first | omega | assumption | (simp only [size_alloc, size_put] <;> omega) | (simp only [RK, Nat.reduceAdd] <;> omega) | fail) only [R1, R, Nat.reduceBEq, Nat.reduceAdd]
        by_cases hf : 0 ≤ fnd (nodesOf keys) ((nodesOf keys).getD i.toNat default ++ [UInt8.ofNat c.toNat])
        · simp (disch := first | omega | assumption | (simp only [size_alloc, size_put] <;> omega) | (simp only [RK, Nat.reduceAdd] <;> omega) | fail) only [R1, R, Nat.reduceBEq, Nat.reduceAdd, decide_eq_false (Int.not_lt.mpr hf)]
          refine ⟨?_, hKA.trans (hK1.trans hK2)⟩
          rw [if_pos ⟨hi, hc, hf⟩]
        · simp (disch := first | omega | assumption | (simp only [size_alloc, size_put] <;> omega) | (simp only [RK, Nat.reduceAdd] <;> omega) | fail) only [R1, R, Nat.reduceBEq, Nat.reduceAdd, decide_eq_true (Int.not_le.mp hf)]
          refine ⟨?_, hKA.trans (hK1.trans hK2)⟩
          rw [if_neg (fun h => hf h.2.2)]
      · have hcc : (decide (0 ≤ c) && decide (c ≤ 255)) = false := by
          rw [Bool.and_eq_false_iff, decide_eq_false_iff_not, decide_eq_false_iff_not]; omega
        simp (disch := first | omega | assumption | (simp only [size_alloc, size_put] <;> omega) | (simp only [RK, Nat.reduceAdd] <;> omega) | fail) only [R1, R, Nat.reduceBEq, Nat.reduceAdd, hcc]
        refine ⟨?_, hKA.trans hK1⟩
        rw [if_neg (fun h => hc h.2.1)]
    · have hii : (decide (0 ≤ i) && decide (i ≤ ((nodesOf keys).length : Int) - 1)) = false := by
        rw [Bool.and_eq_false_iff, decide_eq_false_iff_not, decide_eq_false_iff_not]; omega
      simp (disch := first | omega | assumption | (simp only [size_alloc, size_put] <;> omega) | (simp only [RK, Nat.reduceAdd] <;> omega) | fail) only [R1, R, Nat.reduceBEq, Nat.reduceAdd, hii]
      refine ⟨?_, hKA.trans hK1⟩
      rw [if_neg (fun h => hi h.1)]
end Go.AE
set_option linter.unusedVariables false
set_option linter.unusedSimpArgs false
namespace Go.AE
variable {H : AH}

theorem fnd_filter {p : Str → Bool} {l : List Str} {s : Str} (hp : p s = true) (h : s ∈ l) : fnd (l.filter p) s = ((l.take (fnd l s).toNat).filter p).length := by
  induction l with
  | nil => simp at h
  | cons a r ih =>
    by_cases ha : a = s
    · subst ha; simp [fnd, hp]
    · have hr : s ∈ r := (List.mem_cons.mp h).resolve_left (Ne.symm ha)
      have h1 := fnd_iff.mpr hr
      have h2 : 0 ≤ fnd (r.filter p) s := fnd_iff.mpr (List.mem_filter.mpr ⟨hr, hp⟩)
      have ih := ih hr
      have e : (fnd (a :: r) s).toNat = (fnd r s).toNat + 1 := by simp only [fnd]; rw [if_neg ha, if_neg (by omega)]; omega
      rw [e, List.take_succ_cons]
      by_cases hpa : p a = true
      · rw [List.filter_cons_of_pos hpa, List.filter_cons_of_pos hpa, List.length_cons]
        simp only [fnd]
        rw [if_neg ha, if_neg (by omega : ¬ fnd (r.filter p) s < 0)]; omega
      · rw [List.filter_cons_of_neg hpa, List.filter_cons_of_neg hpa]; exact ih
theorem fnd_getD {l : List Str} {s : Str} (h : 0 ≤ fnd l s) : (fnd l s).toNat < l.length ∧ l.getD (fnd l s).toNat default = s := by
  induction l with
  | nil => simp [fnd] at h
  | cons a r ih =>
    by_cases ha : a = s
    · subst ha; simp [fnd]
    · simp only [fnd] at h ⊢
      rw [if_neg ha] at h ⊢
      by_cases hr : fnd r s < 0
      · rw [if_pos hr] at h; omega
      · rw [if_neg hr]
        obtain ⟨i1, i2⟩ := ih (by omega)
        have e : (fnd r s + 1).toNat = (fnd r s).toNat + 1 := by omega
        rw [e]
        exact ⟨by simp; omega, by simpa using i2⟩
theorem cnt_map {p : Str → Bool} {l : List Str} {k : Nat} : (((l.map p).take k).filter id).length = ((l.take k).filter p).length := by
  rw [← List.map_take]
  induction l.take k with
  | nil => rfl
  | cons a r ih =>
    rw [List.map_cons]
    by_cases h : p a = true
    · rw [List.filter_cons_of_pos (by simpa using h), List.filter_cons_of_pos h, List.length_cons, List.length_cons, ih]
    · rw [List.filter_cons_of_neg (by simpa using h), List.filter_cons_of_neg h, ih]
theorem count_eq {b o k : Nat} {v : Value} {ws : List Nat} {en : List Bool} {Q : CPost} (hp : opLoad none (.pointer (some ⟨b, o + 1, none⟩)) H = some v) (hS : Nats H v ws) (hB : BitsAre ws en) (hk : k ≤ en.length) (hl : en.length ≤ 4096) :
    ACalls Ez 158 [.pointer (some ⟨b, o, none⟩), .int .i64 0, .int .i64 k] H Q = Q (.int .i64 ((en.take k).filter id).length) H := by
  refine ACalls.eq (k_i_Bits_count rfl ?_)
  simp (disch := first | omega | assumption | (simp only [size_alloc, size_put] <;> omega) | (simp only [RK, Nat.reduceAdd] <;> omega) | fail) only [R1, R, Nat.reduceBEq, Nat.reduceAdd, b_i_Bits_count]
  refine AWP_upS (fun j t H' => H' = H ∧ j ≤ k ∧ t 8 = .int .i64 j ∧ t 7 = .int .i64 ((en.take j).filter id).length) k ⟨rfl, by omega, rfl, rfl⟩ ?_
  rintro j t H' hj hT ⟨rfl, _, h8, h7⟩
  have h0 : t 0 = .pointer (some ⟨b, o, none⟩) := hT 0 rfl
  have h2 : t 2 = .int .i64 k := hT 2 rfl
  have hcl : ((en.take j).filter id).length ≤ j := Nat.le_trans (List.length_filter_le _ _) (by rw [List.length_take]; omega)
  simp (disch := first | omega | assumption | (simp only [size_alloc, size_put] <;> omega) | (simp only [RK, Nat.reduceAdd] <;> omega) | fail) only [R1, R, Nat.reduceBEq, Nat.reduceAdd, L_i_Bits_count_0, h8, h2]
  refine ACond_split (fun h => ?_) (fun h => ?_)
  · simp only [decide_eq_true_eq, Int.ofNat_lt] at h
    have hst : ((en.take (j + 1)).filter id).length = ((en.take j).filter id).length + (if en.getD j false = true then 1 else 0) := by
      have e : en.take (j + 1) = en.take j ++ [en.getD j false] := by
        rw [take_succ_getD (by omega)]; simp [List.getD, List.getElem?_eq_getElem (show j < en.length by omega)]
      rw [e, List.filter_append, List.length_append]
      congr 1
      cases en.getD j false <;> rfl
    simp (disch := first | omega | assumption | (simp only [size_alloc, size_put] <;> omega) | (simp only [RK, Nat.reduceAdd] <;> omega) | fail) only [R1, R, Nat.reduceBEq, Nat.reduceAdd, h0, h8, at_eq (o := o) hp hS hB.2.1 (show j / 16 < ws.length by rw [hB.1]; omega) (by omega), hB.2.2]
    refine ACond_split (fun hb => ?_) (fun hb => ?_)
    · simp (disch := first | omega | assumption | (simp only [size_alloc, size_put] <;> omega) | (simp only [RK, Nat.reduceAdd] <;> omega) | fail) only [R1, R, Nat.reduceBEq, Nat.reduceAdd, h7, h8]
      refine ⟨by omega, trivial, by omega, by congr 1, ?_⟩
      rw [hst, if_pos hb]; congr 1
    · simp (disch := first | omega | assumption | (simp only [size_alloc, size_put] <;> omega) | (simp only [RK, Nat.reduceAdd] <;> omega) | fail) only [R1, R, Nat.reduceBEq, Nat.reduceAdd, h7, h8]
      refine ⟨by omega, trivial, by omega, by congr 1, ?_⟩
      rw [hst, if_neg (by rw [hb]; decide)]; congr 1
  · simp only [decide_eq_false_iff_not] at h
    obtain rfl : j = k := by omega
    simp (disch := first | omega | assumption | (simp only [size_alloc, size_put] <;> omega) | (simp only [RK, Nat.reduceAdd] <;> omega) | fail) only [R1, R, Nat.reduceBEq, Nat.reduceAdd, h7]
    exact .mk rfl

/-! ### the two -/

noncomputable def indexR (T : TrieT) (s : Str) : Int × Bool :=
  match trieV T with
  | some keys => if keys.contains s = true then (fnd ((nodesOf keys).filter keys.contains) s, true) else (0, false)
  | none => (0, false)
theorem FindNode_ok {T : TrieT} {v1 v2 : Value} {s : Str} (hL : Wf H) (hT : TrieAt H T v1 v2) :
    ACalls Ez n_i_FindNode [.agg #[.int .i64 T.n, v1, .int .i64 T.m, v2, sv T.lb], sv s] H (fun v' H' => Kp H H' ∧ match trieV T with
      | some keys => v' = .tuple #[.int .i64 (if fnd (nodesOf keys) s < 0 then 0 else fnd (nodesOf keys) s), .bool (decide (0 ≤ fnd (nodesOf keys) s))]
      | none => v' = .tuple #[.int .i64 0, .bool false]) := by
  refine k_i_FindNode rfl ?_
  generalize hHA : H.alloc ⟨[.int .i64 T.n, v1, .int .i64 T.m, v2, sv T.lb], 0⟩ = HA
  have hKA : Kp H HA := by rw [← hHA]; exact Kp.refl.alloc
  have hg : HA.get H.size = some ⟨trieC T v1 v2, 0⟩ := by rw [← hHA]; exact get_alloc_self rfl
  simp (disch := first | omega | assumption | (simp only [size_alloc, size_put] <;> omega) | (simp only [RK, Nat.reduceAdd] <;> omega) | fail) only [R1, R, Nat.reduceBEq, Nat.reduceAdd, b_i_FindNode, hHA]
  refine (nodes_ok (hKA.wf hL) hg (hT.kp hKA)).imp ?_
  rintro w H1 ⟨hK1, hm⟩
  cases hv : trieV T with
  | none =>
    rw [hv] at hm
    subst hm
    simp (disch := first | omega | assumption | (simp only [size_alloc, size_put] <;> omega) | (simp only [RK, Nat.reduceAdd] <;> omega) | fail) only [R1, R, Nat.reduceBEq, Nat.reduceAdd]
    rw [placedAt_eq (l := []) .nil (by simp)]
    simp (disch := first | omega | assumption | (simp only [size_alloc, size_put] <;> omega) | (simp only [RK, Nat.reduceAdd] <;> omega) | fail) only [R1, R, Nat.reduceBEq, Nat.reduceAdd]
    refine ⟨hKA.trans hK1, ?_⟩
    rfl
  | some keys =>
    rw [hv] at hm
    have hlen := nodesOf_len (trieV_some.mp hv).1
    simp (disch := first | omega | assumption | (simp only [size_alloc, size_put] <;> omega) | (simp only [RK, Nat.reduceAdd] <;> omega) | fail) only [R1, R, Nat.reduceBEq, Nat.reduceAdd]
    rw [placedAt_eq hm.1 (by omega)]
    simp (disch := first | omega | assumption | (simp only [size_alloc, size_put] <;> omega) | (simp only [RK, Nat.reduceAdd] <;> omega) | fail) only [R1, R, Nat.reduceBEq, Nat.reduceAdd]
    exact ⟨hKA.trans hK1, trivial⟩
theorem iTrieIndex_ok {T : TrieT} {v1 v2 : Value} {s : Str} (hL : Wf H) (hT : TrieAt H T v1 v2) :
    ACalls Ez n_i_TrieIndex [.agg #[.int .i64 T.n, v1, .int .i64 T.m, v2, sv T.lb], sv s] H (PairP H (indexR T s)) := by
  refine k_i_TrieIndex rfl ?_
  generalize hHA : H.alloc ⟨[.int .i64 T.n, v1, .int .i64 T.m, v2, sv T.lb], 0⟩ = HA
  have hKA : Kp H HA := by rw [← hHA]; exact Kp.refl.alloc
  have hg : HA.get H.size = some ⟨trieC T v1 v2, 0⟩ := by rw [← hHA]; exact get_alloc_self rfl
  have hld := trie_ld hg
  simp (disch := first | omega | assumption | (simp only [size_alloc, size_put] <;> omega) | (simp only [RK, Nat.reduceAdd] <;> omega) | fail) only [R1, R, Nat.reduceBEq, Nat.reduceAdd, b_i_TrieIndex, hHA, hld]
  refine (FindNode_ok (hKA.wf hL) (hT.kp hKA)).imp ?_
  rintro v' H1 ⟨hK1, hm⟩
  unfold indexR
  cases hv : trieV T with
  | none =>
    rw [hv] at hm
    subst hm
    simp (disch := first | omega | assumption | (simp only [size_alloc, size_put] <;> omega) | (simp only [RK, Nat.reduceAdd] <;> omega) | fail) only [R1, R, Nat.reduceBEq, Nat.reduceAdd]
    exact ⟨rfl, hKA.trans hK1⟩
  | some keys =>
    rw [hv] at hm
    subst hm
    have hk := (trieV_some.mp hv).1
    have hlen := nodesOf_len hk
    by_cases hf : 0 ≤ fnd (nodesOf keys) s
    · obtain ⟨f1, f2⟩ := fnd_getD hf
      obtain ⟨_, w, e, hTe, b1, b2⟩ := trieV_some.mp hv
      have hes : T.es = e.map Int.ofNat := by rw [hTe]
      have hE : Nats H1 v2 e := ints_nats.mp (hes ▸ ((hT.kp hKA).kp hK1).es)
      have hel : (endsOf keys (nodesOf keys)).length = (nodesOf keys).length := by simp [endsOf]
      have hld1 := trie_ld (hK1.get hg)
      have ei : fnd (nodesOf keys) s = ((fnd (nodesOf keys) s).toNat : Nat) := by omega
      have egd : (endsOf keys (nodesOf keys)).getD (fnd (nodesOf keys) s).toNat false = keys.contains s := by
        rw [endsOf, List.getD, List.getElem?_map, List.getElem?_eq_getElem f1]
        rw [getD_eq f1] at f2
        rw [f2]; rfl
      rw [if_neg (by omega), decide_eq_true hf, ei]
      simp (disch := first | omega | assumption | (simp only [size_alloc, size_put] <;> omega) | (simp only [RK, Nat.reduceAdd] <;> omega) | fail) only [R1, R, Nat.reduceBEq, Nat.reduceAdd, at_eq (o := 2) hld1.2.2.2.1 hE b2.2.1 (show (fnd (nodesOf keys) s).toNat / 16 < e.length by rw [b2.1, hel]; omega) (by omega), b2.2.2, egd]
      cases hc : keys.contains s with
      | false =>
        simp (disch := first | omega | assumption | (simp only [size_alloc, size_put] <;> omega) | (simp only [RK, Nat.reduceAdd] <;> omega) | fail) only [R1, R, Nat.reduceBEq, Nat.reduceAdd]
        exact ⟨rfl, hKA.trans hK1⟩
      | true =>
        simp (disch := first | omega | assumption | (simp only [size_alloc, size_put] <;> omega) | (simp only [RK, Nat.reduceAdd] <;> omega) | fail) only [R1, R, Nat.reduceBEq, Nat.reduceAdd]
        rw [count_eq (o := 2) hld1.2.2.2.1 hE b2 (by omega) (by omega)]
        simp (disch := first | omega | assumption | (simp only [size_alloc, size_put] <;> omega) | (simp only [RK, Nat.reduceAdd] <;> omega) | fail) only [R1, R, Nat.reduceBEq, Nat.reduceAdd]
        refine ⟨?_, hKA.trans hK1⟩
        rw [if_pos trivial, fnd_filter hc (fnd_iff.mp hf), endsOf, cnt_map]
    · have hc : keys.contains s = false := by
        rw [Bool.eq_false_iff, Ne, List.contains_iff_mem]
        exact fun h => hf (fnd_iff.mpr (key_node hk h))
      rw [decide_eq_false hf]
      simp (disch := first | omega | assumption | (simp only [size_alloc, size_put] <;> omega) | (simp only [RK, Nat.reduceAdd] <;> omega) | fail) only [R1, R, Nat.reduceBEq, Nat.reduceAdd, hc]
      exact ⟨rfl, hKA.trans hK1⟩
theorem trByNode_ok {v : Value} {keys : List Str} (hL : Wf H) (hS : Strs H v keys) (hk : areKeys keys = true) :
    ACalls Ez n_s_trByNode [v] H (fun v' H' => Own sv H.size H' v' ((nodesOf keys).filter keys.contains) ∧ Kp H H') := by
  refine k_s_trByNode rfl ?_
  have hwf : H.lo ≤ H.size := hL
  have hkl := areKeys_len hk
  have hlen := nodesOf_len hk
  simp (disch := first | omega | assumption | (simp only [size_alloc, size_put] <;> omega) | (simp only [RK, Nat.reduceAdd] <;> omega) | fail) only [R1, R, Nat.reduceBEq, Nat.reduceAdd, b_s_trByNode]
  refine (trNodes_ok hL hS hk).imp ?_
  rw [nodes_same hk]
  rintro w H1 ⟨hO1, hK1⟩
  simp (disch := first | omega | assumption | (simp only [size_alloc, size_put] <;> omega) | (simp only [RK, Nat.reduceAdd] <;> omega) | fail) only [R1, R, Nat.reduceBEq, Nat.reduceAdd, hO1.1.r]
  refine AWP_for (nodesOf keys).length (fun k t H' => ∃ u, t 3 = u ∧ Kp H1 H' ∧ Own sv H1.size H' u (((nodesOf keys).take k).filter keys.contains)) rfl rfl (by omega) ⟨_, rfl, Kp.refl, .nil⟩ rfl ?_ ?_
  · rintro k t H2 hkk hi hn hT ⟨u, h3, hK, hO⟩
    have h0 : t 0 = v := hT 0 rfl
    have h7 : t 7 = w := hT 7 rfl
    have hK2 := hK1.trans hK
    have hfl : (((nodesOf keys).take k).filter keys.contains).length ≤ k := Nat.le_trans (List.length_filter_le _ _) (by rw [List.length_take]; omega)
    simp (disch := first | omega | assumption | (simp only [size_alloc, size_put] <;> omega) | (simp only [RK, Nat.reduceAdd] <;> omega) | fail) only [R1, R, Nat.reduceBEq, Nat.reduceAdd, L_s_trByNode_0, hi, h0, h7, (hO1.1.kp hK).r]
    rw [l1HasS_eq (hS.kp hK2) (by omega)]
    simp (disch := first | omega | assumption | (simp only [size_alloc, size_put] <;> omega) | (simp only [RK, Nat.reduceAdd] <;> omega) | fail) only [R1, R, Nat.reduceBEq, Nat.reduceAdd]
    have hst : ((nodesOf keys).take (k + 1)).filter keys.contains = ((nodesOf keys).take k).filter keys.contains ++ if keys.contains ((nodesOf keys).getD k default) = true then [(nodesOf keys).getD k default] else [] := by
      rw [take_succ_getD hkk, List.filter_append]; congr 1
      by_cases h : keys.contains ((nodesOf keys).getD k default) = true
      · rw [if_pos h, List.filter_cons_of_pos h, List.filter_nil]
      · rw [if_neg h, List.filter_cons_of_neg h, List.filter_nil]
    refine ACond_split (fun h => ?_) (fun h => ?_)
    · obtain ⟨u', H3, e2, hO3, hX, _⟩ := append_1 (bytes := 16) (a := (nodesOf keys).getD k default) hO (by rw [hK2.lo]; exact Nat.le_trans hwf hK1.size) (fun _ => sv_one) (by omega) hK.size
      simp (disch := first | omega | assumption | (simp only [size_alloc, size_put] <;> omega) | (simp only [RK, Nat.reduceAdd] <;> omega) | fail) only [R1, R, Nat.reduceBEq, Nat.reduceAdd, h3, e2]
      refine ⟨_, rfl, ?_, ?_⟩
      · exact hK.app hX hO.2
      · rw [hst, if_pos h]; exact hO3
    · simp (disch := first | omega | assumption | (simp only [size_alloc, size_put] <;> omega) | (simp only [RK, Nat.reduceAdd] <;> omega) | fail) only [R1, R, Nat.reduceBEq, Nat.reduceAdd]
      refine ⟨_, h3, hK, ?_⟩
      rw [hst, if_neg (by rw [h]; decide), List.append_nil]; exact hO
  · rintro t H2 hi hn hT ⟨u, h3, hK, hO⟩
    rw [List.take_length] at hO
    simp (disch := first | omega | assumption | (simp only [size_alloc, size_put] <;> omega) | (simp only [RK, Nat.reduceAdd] <;> omega) | fail) only [R1, R, Nat.reduceBEq, Nat.reduceAdd, h3]
    exact ⟨hO.to hK1.size, hK1.trans hK⟩
theorem sTrieIndex_ok {T : TrieT} {v1 v2 : Value} {s : Str} (hL : Wf H) (hT : TrieAt H T v1 v2) :
    ACalls Ez n_s_TrieIndex [.agg #[.int .i64 T.n, v1, .int .i64 T.m, v2, sv T.lb], sv s] H (PairP H (indexR T s)) := by
  refine k_s_TrieIndex rfl ?_
  generalize hHA : H.alloc ⟨[.int .i64 T.n, v1, .int .i64 T.m, v2, sv T.lb], 0⟩ = HA
  have hKA : Kp H HA := by rw [← hHA]; exact Kp.refl.alloc
  have hg : HA.get H.size = some ⟨trieC T v1 v2, 0⟩ := by rw [← hHA]; exact get_alloc_self rfl
  have hld := trie_ld hg
  simp (disch := first | omega | assumption | (simp only [size_alloc, size_put] <;> omega) | (simp only [RK, Nat.reduceAdd] <;> omega) | fail) only [R1, R, Nat.reduceBEq, Nat.reduceAdd, b_s_TrieIndex, hHA, hld]
  refine (trKeys_ok (hKA.wf hL) (hT.kp hKA)).imp ?_
  rintro v' H1 ⟨hK1, hm⟩
  unfold indexR
  cases hv : trieV T with
  | none =>
    rw [hv] at hm
    obtain ⟨w, rfl⟩ := hm
    simp (disch := first | omega | assumption | (simp only [size_alloc, size_put] <;> omega) | (simp only [RK, Nat.reduceAdd] <;> omega) | fail) only [R1, R, Nat.reduceBEq, Nat.reduceAdd]
    exact ⟨rfl, hKA.trans hK1⟩
  | some keys =>
    rw [hv] at hm
    obtain ⟨w, rfl, hS⟩ := hm
    have hk := (trieV_some.mp hv).1
    have hkl := areKeys_len hk
    have hlen := nodesOf_len hk
    simp (disch := first | omega | assumption | (simp only [size_alloc, size_put] <;> omega) | (simp only [RK, Nat.reduceAdd] <;> omega) | fail) only [R1, R, Nat.reduceBEq, Nat.reduceAdd, l1HasS_eq hS (by omega)]
    cases hc : keys.contains s with
    | false =>
      simp (disch := first | omega | assumption | (simp only [size_alloc, size_put] <;> omega) | (simp only [RK, Nat.reduceAdd] <;> omega) | fail) only [R1, R, Nat.reduceBEq, Nat.reduceAdd]
      exact ⟨rfl, hKA.trans hK1⟩
    | true =>
      simp (disch := first | omega | assumption | (simp only [size_alloc, size_put] <;> omega) | (simp only [RK, Nat.reduceAdd] <;> omega) | fail) only [R1, R, Nat.reduceBEq, Nat.reduceAdd]
      refine (trByNode_ok ((hKA.trans hK1).wf hL) hS hk).imp ?_
      rintro u H2 ⟨hO, hK2⟩
      have hfl : ((nodesOf keys).filter keys.contains).length ≤ (nodesOf keys).length := List.length_filter_le _ _
      simp (disch := first | omega | assumption | (simp only [size_alloc, size_put] <;> omega) | (simp only [RK, Nat.reduceAdd] <;> omega) | fail) only [R1, R, Nat.reduceBEq, Nat.reduceAdd]
      rw [trFind_eq hO.1 (by omega)]
      simp (disch := first | omega | assumption | (simp only [size_alloc, size_put] <;> omega) | (simp only [RK, Nat.reduceAdd] <;> omega) | fail) only [R1, R, Nat.reduceBEq, Nat.reduceAdd]
      refine ⟨?_, hKA.trans (hK1.trans hK2)⟩
      rw [if_pos trivial]
end Go.AE
set_option linter.unusedVariables false
set_option linter.unusedSimpArgs false
namespace Go.AE
variable {H : AH}

theorem lawChildOf {T : TrieT} {v1 v2 : Value} {i c : Int} (hL : Wf H) (hT0 : TrieIn H T v1 v2) :
    ACalls Ez n_l_FnExactChildOf [.agg #[.int .i64 T.n, v1, .int .i64 T.m, v2, sv T.lb], .int .i64 i, .int .i64 c] H (fun v' _ => v' = .bool true) := by
  refine k_l_FnExactChildOf rfl ?_
  generalize hHA : H.alloc ⟨[.int .i64 T.n, v1, .int .i64 T.m, v2, sv T.lb], 0⟩ = HA
  have hKA : Kp H HA := by rw [← hHA]; exact Kp.refl.alloc
  have hg : HA.get H.size = some ⟨trieC T v1 v2, 0⟩ := by rw [← hHA]; exact get_alloc_self rfl
  have hld := trie_ld hg
  have hLA := hKA.wf hL
  simp (disch := first | omega | assumption | (simp only [size_alloc, size_put] <;> omega) | (simp only [RK, Nat.reduceAdd] <;> omega) | fail) only [R1, R, Nat.reduceBEq, Nat.reduceAdd, b_l_FnExactChildOf, hHA, hld]
  refine (szTrie_ok (hT0.ws.kp hKA) (hT0.es.kp hKA) hT0.wl hT0.el hT0.ll).ret fun H1 hK1 => ?_
  by_cases hsz : szT T 1048576 < 0
  · simp (disch := first | omega | assumption | (simp only [size_alloc, size_put] <;> omega) | (simp only [RK, Nat.reduceAdd] <;> omega) | fail) only [R1, R, Nat.reduceBEq, Nat.reduceAdd, decide_eq_true hsz]
  have hT := hT0.at hsz
  have hTA := hT.kp hKA
  have hld1 := trie_ld (hK1.get hg)
  simp (disch := first | omega | assumption | (simp only [size_alloc, size_put] <;> omega) | (simp only [RK, Nat.reduceAdd] <;> omega) | fail) only [R1, R, Nat.reduceBEq, Nat.reduceAdd, decide_eq_false hsz, hld1]
  refine (toTrie_ok (hK1.wf hLA) (hTA.kp hK1)).imp ?_
  rintro v3 H2 ⟨a1, a2, rfl, hs2, hK2⟩
  have hT2 := CopyT.at hs2 (hTA.kp hK1)
  have hL2 := (hK1.trans hK2).wf hLA
  simp (disch := first | omega | assumption | (simp only [size_alloc, size_put] <;> omega) | (simp only [RK, Nat.reduceAdd] <;> omega) | fail) only [R1, R, Nat.reduceBEq, Nat.reduceAdd]
  refine (sChildOf_ok hL2 hT2).imp ?_
  rintro v4 H3 ⟨rfl, hK3⟩
  have hKA3 := hK1.trans (hK2.trans hK3)
  have hld3 := trie_ld (hKA3.get hg)
  simp (disch := first | omega | assumption | (simp only [size_alloc, size_put] <;> omega) | (simp only [RK, Nat.reduceAdd] <;> omega) | fail) only [R1, R, Nat.reduceBEq, Nat.reduceAdd, hld3]
  refine (toTrie_ok (hKA3.wf hLA) (hTA.kp hKA3)).imp ?_
  rintro v5 H4 ⟨b1, b2, rfl, hs4, hK4⟩
  have hT4 := CopyT.at hs4 (hTA.kp hKA3)
  have hKA4 := hKA3.trans hK4
  have hL4 := hKA4.wf hLA
  have ho1 := hT4.ws.one
  have ho2 := hT4.es.one
  have hKB : Kp H4 (H4.alloc ⟨[.int .i64 T.n, b1, .int .i64 T.m, b2, sv T.lb], 0⟩) := Kp.refl.alloc
  generalize hHB : H4.alloc ⟨[.int .i64 T.n, b1, .int .i64 T.m, b2, sv T.lb], 0⟩ = HB at *
  have hgB : HB.get H4.size = some ⟨trieC T b1 b2, 0⟩ := by rw [← hHB]; exact get_alloc_self rfl
  have hldB := trie_ld hgB
  simp (disch := first | omega | assumption | (simp only [size_alloc, size_put] <;> omega) | (simp only [RK, Nat.reduceAdd, ho1.1, ho1.2, ho2.1, ho2.2] <;> omega) | fail) only [R1, R, Nat.reduceBEq, Nat.reduceAdd, store_all, hHB, hldB, ho1.1, ho1.2, ho2.1, ho2.2]
  refine (iChildOf_ok (hKB.wf hL4) (hT4.kp hKB)).imp ?_
  rintro v6 H6 ⟨rfl, hK6⟩
  have hld6 := trie_ld (hK6.get hgB)
  have hKA6 := hKA4.trans (hKB.trans hK6)
  have hld6' := trie_ld (hKA6.get hg)
  simp (disch := first | omega | assumption | (simp only [size_alloc, size_put] <;> omega) | (simp only [RK, Nat.reduceAdd] <;> omega) | fail) only [R1, R, Nat.reduceBEq, Nat.reduceAdd, decide_true, beq_self_eq_true, hld6, hld6']
  refine (toTrie_ok (hKA6.wf hLA) (hTA.kp hKA6)).imp ?_
  rintro v7 H7 ⟨c1, c2, rfl, hs7, hK7⟩
  have hT7 := CopyT.at hs7 (hTA.kp hKA6)
  simp (disch := first | omega | assumption | (simp only [size_alloc, size_put] <;> omega) | (simp only [RK, Nat.reduceAdd] <;> omega) | fail) only [R1, R, Nat.reduceBEq, Nat.reduceAdd]
  refine (eqTrie_ok (hT4.kp (hKB.trans (hK6.trans hK7))) hT7).ret fun H8 hK8 => ?_
  rw [sameT_self]
  simp (disch := first | omega | assumption | (simp only [size_alloc, size_put] <;> omega) | (simp only [RK, Nat.reduceAdd] <;> omega) | fail) only [R1, R, Nat.reduceBEq, Nat.reduceAdd]
  refine ADr_fin (ck_cons (ck_load rfl rfl rfl rfl rfl (kp_same hK7 (get_lt (hK6.get hgB)))) ck_nil) ?_
  simp (disch := first | omega | assumption | (simp only [size_alloc, size_put] <;> omega) | (simp only [RK, Nat.reduceAdd] <;> omega) | fail) only [R1, R, Nat.reduceBEq, Nat.reduceAdd]
theorem lawTrieIndex {T : TrieT} {v1 v2 : Value} {s : Str} (hL : Wf H) (hT0 : TrieIn H T v1 v2) :
    ACalls Ez n_l_FnExactTrieIndex [.agg #[.int .i64 T.n, v1, .int .i64 T.m, v2, sv T.lb], sv s] H (fun v' _ => v' = .bool true) := by
  refine k_l_FnExactTrieIndex rfl ?_
  generalize hHA : H.alloc ⟨[.int .i64 T.n, v1, .int .i64 T.m, v2, sv T.lb], 0⟩ = HA
  have hKA : Kp H HA := by rw [← hHA]; exact Kp.refl.alloc
  have hg : HA.get H.size = some ⟨trieC T v1 v2, 0⟩ := by rw [← hHA]; exact get_alloc_self rfl
  have hld := trie_ld hg
  have hLA := hKA.wf hL
  simp (disch := first | omega | assumption | (simp only [size_alloc, size_put] <;> omega) | (simp only [RK, Nat.reduceAdd] <;> omega) | fail) only [R1, R, Nat.reduceBEq, Nat.reduceAdd, b_l_FnExactTrieIndex, hHA, hld]
  cases hgd : decide ((1048576 : Int) < s.length) with
  | true => simp (disch := first | omega | assumption | (simp only [size_alloc, size_put] <;> omega) | (simp only [RK, Nat.reduceAdd] <;> omega) | fail) only [R1, R, Nat.reduceBEq, Nat.reduceAdd]
  | false =>
  simp only [decide_eq_false_iff_not] at hgd
  simp (disch := first | omega | assumption | (simp only [size_alloc, size_put] <;> omega) | (simp only [RK, Nat.reduceAdd] <;> omega) | fail) only [R1, R, Nat.reduceBEq, Nat.reduceAdd, hld]
  refine (szTrie_ok (hT0.ws.kp hKA) (hT0.es.kp hKA) hT0.wl hT0.el hT0.ll).ret fun H1 hK1 => ?_
  by_cases hsz : szT T 1048576 < 0
  · simp (disch := first | omega | assumption | (simp only [size_alloc, size_put] <;> omega) | (simp only [RK, Nat.reduceAdd] <;> omega) | fail) only [R1, R, Nat.reduceBEq, Nat.reduceAdd, decide_eq_true hsz]
  have hT := hT0.at hsz
  have hTA := hT.kp hKA
  have hld1 := trie_ld (hK1.get hg)
  simp (disch := first | omega | assumption | (simp only [size_alloc, size_put] <;> omega) | (simp only [RK, Nat.reduceAdd] <;> omega) | fail) only [R1, R, Nat.reduceBEq, Nat.reduceAdd, decide_eq_false hsz, hld1]
  refine (toTrie_ok (hK1.wf hLA) (hTA.kp hK1)).imp ?_
  rintro v3 H2 ⟨a1, a2, rfl, hs2, hK2⟩
  have hT2 := CopyT.at hs2 (hTA.kp hK1)
  have hL2 := (hK1.trans hK2).wf hLA
  simp (disch := first | omega | assumption | (simp only [size_alloc, size_put] <;> omega) | (simp only [RK, Nat.reduceAdd] <;> omega) | fail) only [R1, R, Nat.reduceBEq, Nat.reduceAdd]
  refine (sTrieIndex_ok hL2 hT2).imp ?_
  rintro v4 H3 ⟨rfl, hK3⟩
  have hKA3 := hK1.trans (hK2.trans hK3)
  have hld3 := trie_ld (hKA3.get hg)
  simp (disch := first | omega | assumption | (simp only [size_alloc, size_put] <;> omega) | (simp only [RK, Nat.reduceAdd] <;> omega) | fail) only [R1, R, Nat.reduceBEq, Nat.reduceAdd, hld3]
  refine (toTrie_ok (hKA3.wf hLA) (hTA.kp hKA3)).imp ?_
  rintro v5 H4 ⟨b1, b2, rfl, hs4, hK4⟩
  have hT4 := CopyT.at hs4 (hTA.kp hKA3)
  have hKA4 := hKA3.trans hK4
  have hL4 := hKA4.wf hLA
  have ho1 := hT4.ws.one
  have ho2 := hT4.es.one
  have hKB : Kp H4 (H4.alloc ⟨[.int .i64 T.n, b1, .int .i64 T.m, b2, sv T.lb], 0⟩) := Kp.refl.alloc
  generalize hHB : H4.alloc ⟨[.int .i64 T.n, b1, .int .i64 T.m, b2, sv T.lb], 0⟩ = HB at *
  have hgB : HB.get H4.size = some ⟨trieC T b1 b2, 0⟩ := by rw [← hHB]; exact get_alloc_self rfl
  have hldB := trie_ld hgB
  simp (disch := first | omega | assumption | (simp only [size_alloc, size_put] <;> omega) | (simp only [RK, Nat.reduceAdd, ho1.1, ho1.2, ho2.1, ho2.2] <;> omega) | fail) only [R1, R, Nat.reduceBEq, Nat.reduceAdd, store_all, hHB, hldB, ho1.1, ho1.2, ho2.1, ho2.2]
  refine (iTrieIndex_ok (hKB.wf hL4) (hT4.kp hKB)).imp ?_
  rintro v6 H6 ⟨rfl, hK6⟩
  have hld6 := trie_ld (hK6.get hgB)
  have hKA6 := hKA4.trans (hKB.trans hK6)
  have hld6' := trie_ld (hKA6.get hg)
  simp (disch := first | omega | assumption | (simp only [size_alloc, size_put] <;> omega) | (simp only [RK, Nat.reduceAdd] <;> omega) | fail) only [R1, R, Nat.reduceBEq, Nat.reduceAdd, decide_true, beq_self_eq_true, hld6, hld6']
  refine (toTrie_ok (hKA6.wf hLA) (hTA.kp hKA6)).imp ?_
  rintro v7 H7 ⟨c1, c2, rfl, hs7, hK7⟩
  have hT7 := CopyT.at hs7 (hTA.kp hKA6)
  simp (disch := first | omega | assumption | (simp only [size_alloc, size_put] <;> omega) | (simp only [RK, Nat.reduceAdd] <;> omega) | fail) only [R1, R, Nat.reduceBEq, Nat.reduceAdd]
  refine (eqTrie_ok (hT4.kp (hKB.trans (hK6.trans hK7))) hT7).ret fun H8 hK8 => ?_
  rw [sameT_self]
  simp (disch := first | omega | assumption | (simp only [size_alloc, size_put] <;> omega) | (simp only [RK, Nat.reduceAdd] <;> omega) | fail) only [R1, R, Nat.reduceBEq, Nat.reduceAdd]
  refine ADr_fin (ck_cons (ck_load rfl rfl rfl rfl rfl (kp_same hK7 (get_lt (hK6.get hgB)))) ck_nil) ?_
  simp (disch := first | omega | assumption | (simp only [size_alloc, size_put] <;> omega) | (simp only [RK, Nat.reduceAdd] <;> omega) | fail) only [R1, R, Nat.reduceBEq, Nat.reduceAdd]
theorem lawTrieRank {T : TrieT} {v1 v2 : Value} {s : Str} (hL : Wf H) (hT0 : TrieIn H T v1 v2) :
    ACalls Ez n_l_FnExactTrieRank [.agg #[.int .i64 T.n, v1, .int .i64 T.m, v2, sv T.lb], sv s] H (fun v' _ => v' = .bool true) := by
  refine k_l_FnExactTrieRank rfl ?_
  generalize hHA : H.alloc ⟨[.int .i64 T.n, v1, .int .i64 T.m, v2, sv T.lb], 0⟩ = HA
  have hKA : Kp H HA := by rw [← hHA]; exact Kp.refl.alloc
  have hg : HA.get H.size = some ⟨trieC T v1 v2, 0⟩ := by rw [← hHA]; exact get_alloc_self rfl
  have hld := trie_ld hg
  have hLA := hKA.wf hL
  simp (disch := first | omega | assumption | (simp only [size_alloc, size_put] <;> omega) | (simp only [RK, Nat.reduceAdd] <;> omega) | fail) only [R1, R, Nat.reduceBEq, Nat.reduceAdd, b_l_FnExactTrieRank, hHA, hld]
  cases hgd : decide ((1048576 : Int) < s.length) with
  | true => simp (disch := first | omega | assumption | (simp only [size_alloc, size_put] <;> omega) | (simp only [RK, Nat.reduceAdd] <;> omega) | fail) only [R1, R, Nat.reduceBEq, Nat.reduceAdd]
  | false =>
  simp only [decide_eq_false_iff_not] at hgd
  simp (disch := first | omega | assumption | (simp only [size_alloc, size_put] <;> omega) | (simp only [RK, Nat.reduceAdd] <;> omega) | fail) only [R1, R, Nat.reduceBEq, Nat.reduceAdd, hld]
  refine (szTrie_ok (hT0.ws.kp hKA) (hT0.es.kp hKA) hT0.wl hT0.el hT0.ll).ret fun H1 hK1 => ?_
  by_cases hsz : szT T 1048576 < 0
  · simp (disch := first | omega | assumption | (simp only [size_alloc, size_put] <;> omega) | (simp only [RK, Nat.reduceAdd] <;> omega) | fail) only [R1, R, Nat.reduceBEq, Nat.reduceAdd, decide_eq_true hsz]
  have hT := hT0.at hsz
  have hTA := hT.kp hKA
  have hld1 := trie_ld (hK1.get hg)
  simp (disch := first | omega | assumption | (simp only [size_alloc, size_put] <;> omega) | (simp only [RK, Nat.reduceAdd] <;> omega) | fail) only [R1, R, Nat.reduceBEq, Nat.reduceAdd, decide_eq_false hsz, hld1]
  refine (toTrie_ok (hK1.wf hLA) (hTA.kp hK1)).imp ?_
  rintro v3 H2 ⟨a1, a2, rfl, hs2, hK2⟩
  have hT2 := CopyT.at hs2 (hTA.kp hK1)
  have hL2 := (hK1.trans hK2).wf hLA
  simp (disch := first | omega | assumption | (simp only [size_alloc, size_put] <;> omega) | (simp only [RK, Nat.reduceAdd] <;> omega) | fail) only [R1, R, Nat.reduceBEq, Nat.reduceAdd]
  refine (sTrieRank_ok hL2 hT2).imp ?_
  rintro v4 H3 ⟨rfl, hK3⟩
  have hKA3 := hK1.trans (hK2.trans hK3)
  have hld3 := trie_ld (hKA3.get hg)
  simp (disch := first | omega | assumption | (simp only [size_alloc, size_put] <;> omega) | (simp only [RK, Nat.reduceAdd] <;> omega) | fail) only [R1, R, Nat.reduceBEq, Nat.reduceAdd, hld3]
  refine (toTrie_ok (hKA3.wf hLA) (hTA.kp hKA3)).imp ?_
  rintro v5 H4 ⟨b1, b2, rfl, hs4, hK4⟩
  have hT4 := CopyT.at hs4 (hTA.kp hKA3)
  have hKA4 := hKA3.trans hK4
  have hL4 := hKA4.wf hLA
  have ho1 := hT4.ws.one
  have ho2 := hT4.es.one
  have hKB : Kp H4 (H4.alloc ⟨[.int .i64 T.n, b1, .int .i64 T.m, b2, sv T.lb], 0⟩) := Kp.refl.alloc
  generalize hHB : H4.alloc ⟨[.int .i64 T.n, b1, .int .i64 T.m, b2, sv T.lb], 0⟩ = HB at *
  have hgB : HB.get H4.size = some ⟨trieC T b1 b2, 0⟩ := by rw [← hHB]; exact get_alloc_self rfl
  have hldB := trie_ld hgB
  simp (disch := first | omega | assumption | (simp only [size_alloc, size_put] <;> omega) | (simp only [RK, Nat.reduceAdd, ho1.1, ho1.2, ho2.1, ho2.2] <;> omega) | fail) only [R1, R, Nat.reduceBEq, Nat.reduceAdd, store_all, hHB, hldB, ho1.1, ho1.2, ho2.1, ho2.2]
  refine (iTrieRank_ok (hKB.wf hL4) (hT4.kp hKB)).imp ?_
  rintro v6 H6 ⟨rfl, hK6⟩
  have hld6 := trie_ld (hK6.get hgB)
  have hKA6 := hKA4.trans (hKB.trans hK6)
  have hld6' := trie_ld (hKA6.get hg)
  simp (disch := first | omega | assumption | (simp only [size_alloc, size_put] <;> omega) | (simp only [RK, Nat.reduceAdd] <;> omega) | fail) only [R1, R, Nat.reduceBEq, Nat.reduceAdd, decide_true, beq_self_eq_true, hld6, hld6']
  refine (toTrie_ok (hKA6.wf hLA) (hTA.kp hKA6)).imp ?_
  rintro v7 H7 ⟨c1, c2, rfl, hs7, hK7⟩
  have hT7 := CopyT.at hs7 (hTA.kp hKA6)
  simp (disch := first | omega | assumption | (simp only [size_alloc, size_put] <;> omega) | (simp only [RK, Nat.reduceAdd] <;> omega) | fail) only [R1, R, Nat.reduceBEq, Nat.reduceAdd]
  refine (eqTrie_ok (hT4.kp (hKB.trans (hK6.trans hK7))) hT7).ret fun H8 hK8 => ?_
  rw [sameT_self]
  simp (disch := first | omega | assumption | (simp only [size_alloc, size_put] <;> omega) | (simp only [RK, Nat.reduceAdd] <;> omega) | fail) only [R1, R, Nat.reduceBEq, Nat.reduceAdd]
  refine ADr_fin (ck_cons (ck_load rfl rfl rfl rfl rfl (kp_same hK7 (get_lt (hK6.get hgB)))) ck_nil) ?_
  simp (disch := first | omega | assumption | (simp only [size_alloc, size_put] <;> omega) | (simp only [RK, Nat.reduceAdd] <;> omega) | fail) only [R1, R, Nat.reduceBEq, Nat.reduceAdd]
end Go.AE
