/- Keys: what the functions that look at keys return; no condition. Lists of keys, beginnings of strings: what the functions return; no condition. Places in lists, and bits that are right: what the functions return; no condition. Bits that are right, and single bits: what the functions return; no condition. Vectors of bits that are made: what the functions return; no condition. Vectors of bits that are made: what the functions return; no condition. Vectors of bits made of lists, and vectors alike: what the functions return; no condition. The nodes of a trie: what the functions return; no condition. Repeated bits: what the functions return; no condition. The nodes of a trie as the reference finds them; no condition. Plain facts on the nodes of a trie: the sorted list of all beginnings, and the list by levels, are one; no condition. Plain facts on a trie's text: it is read again as its nodes; no condition. -/
import Derived.Test.YtiklnoodcgippaaGreatCode
import Derived.Test.YtiklnoodcgippaaGreatAec
set_option linter.unusedSimpArgs false
set_option linter.unusedVariables false
set_option linter.unusedSectionVars false
set_option linter.unusedVariables false
set_option linter.unusedSimpArgs false
namespace Go.AE
variable {H : AH}

theorem lt_succ_all {p : Nat → Prop} {k : Nat} (h : ∀ j, j < k → p j) (hk : p k) : ∀ j, j < k + 1 → p j := by
  intro j hj
  rcases Nat.lt_or_eq_of_le (Nat.le_of_lt_succ hj) with h' | rfl
  · exact h j h'
  · exact hk

theorem in_ok {n a b : Int} : ACalls Ez n_i_in [.int .i64 n, .int .i64 a, .int .i64 b] H (Is (.bool (decide (a ≤ n) && decide (n ≤ b))) H) := by
  refine k_i_in rfl ?_
  simp only [R1, R, Nat.reduceBEq, Nat.reduceAdd, b_i_in,]
  refine AGd_split (fun h => ?_) (fun h => ?_) <;> simp only [R1, R, Nat.reduceBEq, Nat.reduceAdd, h]
  · exact .mk (by simp)
  · exact .mk (by simp)
theorem l1In_ok {n a b : Int} : ACalls Ez n_s_l1In [.int .i64 n, .int .i64 a, .int .i64 b] H (Is (.bool (decide (a ≤ n) && decide (n ≤ b))) H) := by
  refine k_s_l1In rfl ?_
  simp only [R1, R, Nat.reduceBEq, Nat.reduceAdd, b_s_l1In,]
  refine AGd_split (fun h => ?_) (fun h => ?_) <;> simp only [R1, R, Nat.reduceBEq, Nat.reduceAdd, h]
  · exact .mk (by simp)
  · exact .mk (by simp)
theorem in_eq {n a b : Int} {Q : CPost} : ACalls Ez 115 [.int .i64 n, .int .i64 a, .int .i64 b] H Q = Q (.bool (decide (a ≤ n) && decide (n ≤ b))) H := in_ok.eq
theorem l1In_eq {n a b : Int} {Q : CPost} : ACalls Ez 117 [.int .i64 n, .int .i64 a, .int .i64 b] H Q = Q (.bool (decide (a ≤ n) && decide (n ≤ b))) H := l1In_ok.eq

def keyByte (b : UInt8) : Bool := !(decide ((b.toNat : Int) < 33) || decide (125 < (b.toNat : Int)))
def isKey (s : Str) : Bool := s.all keyByte && (decide (1 ≤ (s.length : Int)) && decide ((s.length : Int) ≤ 12))

theorem IsKey_ok {s : Str} (hs : s.length ≤ 1099511627776) : ACalls Ez n_i_IsKey [sv s] H (Is (.bool (isKey s)) H) := by
  refine k_i_IsKey rfl ?_
  simp only [R1, R, Nat.reduceBEq, Nat.reduceAdd, b_i_IsKey,]
  refine AWP_for s.length (fun k t H' => H' = H ∧ ∀ j, j < k → keyByte (s.getD j default) = true) rfl rfl (by omega) ⟨rfl, by omega⟩ rfl ?_ ?_
  · rintro k t H' hk hi hn hS ⟨rfl, hI⟩
    have h0 : t 0 = sv s := hS 0 rfl
    simp (disch := first | omega | assumption | (simp only [size_alloc, size_put] <;> omega) | (simp only [RK, Nat.reduceAdd] <;> omega) | fail) only [R1, R, Nat.reduceBEq, Nat.reduceAdd, L_i_IsKey_0, hi, h0, hn]
    refine AGd_split (fun h => ?_) (fun h => ?_) <;> simp (disch := first | omega | assumption | (simp only [size_alloc, size_put] <;> omega) | (simp only [RK, Nat.reduceAdd] <;> omega) | fail) only [R1, R, Nat.reduceBEq, Nat.reduceAdd, h, h0]
    · refine .mk ?_
      simp only [isKey]
      rw [all_false hk (by simp only [keyByte, h]; rfl)]
      rfl
    · refine ACond_split (fun h' => ?_) (fun h' => ?_) <;> simp (disch := first | omega | assumption | (simp only [size_alloc, size_put] <;> omega) | (simp only [RK, Nat.reduceAdd] <;> omega) | fail) only [R1, R, Nat.reduceBEq, Nat.reduceAdd, h, h0, h']
      · refine .mk ?_
        simp only [isKey]
        rw [all_false hk (by simp only [keyByte, h, h']; rfl)]
        rfl
      · exact ⟨trivial, lt_succ_all hI (by simp only [keyByte, h, h']; rfl)⟩
  · rintro t H' hi hn hS ⟨rfl, hI⟩
    have h0 : t 0 = sv s := hS 0 rfl
    simp (disch := first | omega | assumption | (simp only [size_alloc, size_put] <;> omega) | (simp only [RK, Nat.reduceAdd] <;> omega) | fail) only [R1, R, Nat.reduceBEq, Nat.reduceAdd, h0, in_eq]
    refine .mk ?_
    rw [isKey, all_true hI]
    rfl
theorem sIsKey_ok {s : Str} (hs : s.length ≤ 1099511627776) : ACalls Ez n_s_IsKey [sv s] H (Is (.bool (isKey s)) H) := by
  refine k_s_IsKey rfl ?_
  simp only [R1, R, Nat.reduceBEq, Nat.reduceAdd, b_s_IsKey]
  refine AWP_upS (fun k t H' => t 3 = .int .i64 k ∧ k ≤ s.length ∧ H' = H ∧ ∀ j, j < k → keyByte (s.getD j default) = true) s.length ⟨rfl, by omega, rfl, by omega⟩ ?_
  rintro k t H' hk hS ⟨h3, hk2, rfl, hI⟩
  have h0 : t 0 = sv s := hS 0 rfl
  simp (disch := first | omega | assumption | (simp only [size_alloc, size_put] <;> omega) | (simp only [RK, Nat.reduceAdd] <;> omega) | fail) only [R1, R, Nat.reduceBEq, Nat.reduceAdd, L_s_IsKey_0, h0, h3]
  refine ACond_split (fun h1 => ?_) (fun h1 => ?_) <;> simp only [R1, R, Nat.reduceBEq, Nat.reduceAdd]
  · simp only [decide_eq_true_eq, Int.ofNat_lt] at h1
    simp (disch := first | omega | assumption | (simp only [size_alloc, size_put] <;> omega) | (simp only [RK, Nat.reduceAdd] <;> omega) | fail) only [R1, R, Nat.reduceBEq, Nat.reduceAdd, h0, h3]
    refine AGd_split (fun h => ?_) (fun h => ?_) <;> simp (disch := first | omega | assumption | (simp only [size_alloc, size_put] <;> omega) | (simp only [RK, Nat.reduceAdd] <;> omega) | fail) only [R1, R, Nat.reduceBEq, Nat.reduceAdd, h, h0, h3]
    · refine .mk ?_
      simp only [isKey]
      rw [all_false h1 (by simp only [keyByte, h]; rfl)]
      rfl
    · refine ACond_split (fun h' => ?_) (fun h' => ?_) <;> simp (disch := first | omega | assumption | (simp only [size_alloc, size_put] <;> omega) | (simp only [RK, Nat.reduceAdd] <;> omega) | fail) only [R1, R, Nat.reduceBEq, Nat.reduceAdd, h, h0, h', h3]
      · refine .mk ?_
        simp only [isKey]
        rw [all_false h1 (by simp only [keyByte, h, h']; rfl)]
        rfl
      · exact ⟨h1, rfl, h1, trivial, lt_succ_all hI (by simp only [keyByte, h, h']; rfl)⟩
  · simp only [decide_eq_false_iff_not, Int.ofNat_lt] at h1
    simp (disch := first | omega | assumption | (simp only [size_alloc, size_put] <;> omega) | (simp only [RK, Nat.reduceAdd] <;> omega) | fail) only [R1, R, Nat.reduceBEq, Nat.reduceAdd, h0, l1In_eq, if_true]
    refine .mk ?_
    rw [isKey, all_true (fun j hj => hI j (by omega))]
    rfl
theorem IsKey_eq {s : Str} {Q : CPost} (hs : s.length ≤ 1099511627776) : ACalls Ez 107 [sv s] H Q = Q (.bool (isKey s)) H := (IsKey_ok hs).eq
theorem sIsKey_eq {s : Str} {Q : CPost} (hs : s.length ≤ 1099511627776) : ACalls Ez 109 [sv s] H Q = Q (.bool (isKey s)) H := (sIsKey_ok hs).eq
end Go.AE
set_option linter.unusedVariables false
set_option linter.unusedSimpArgs false
namespace Go.AE
variable {H : AH}

def keyAt (l : List Str) (i : Nat) : Bool := isKey (l.getD i default) && !(decide (0 < (i : Int)) && !decide (l.getD (i - 1) default < l.getD i default))
def areKeys (l : List Str) : Bool := (List.range l.length).all (keyAt l) && decide ((l.length : Int) ≤ 40)

theorem range_false {p : Nat → Bool} {n k : Nat} (hk : k < n) (h : p k = false) : (List.range n).all p = false := by
  rw [List.all_eq_false]; exact ⟨k, List.mem_range.mpr hk, by simp [h]⟩
theorem range_true {p : Nat → Bool} {n : Nat} (h : ∀ k, k < n → p k = true) : (List.range n).all p = true := by
  rw [List.all_eq_true]; intro k hk; exact h k (List.mem_range.mp hk)

/-- Lists and strings within bounds. -/
def AllS (l : List Str) : Prop := l.length ≤ 1099511627776 ∧ ∀ s ∈ l, s.length ≤ 1099511627776
theorem AllS.at {l : List Str} (h : AllS l) (i : Nat) : (l.getD i default).length ≤ 1099511627776 := by
  by_cases hi : i < l.length
  · rw [getD_eq hi]; exact h.2 _ (List.getElem_mem hi)
  · simp [List.getD, List.getElem?_eq_none (Nat.le_of_not_lt hi)]; exact Nat.zero_le _

theorem AreKeys_ok {v : Value} {l : List Str} (hS : Strs H v l) (hl : AllS l) : ACalls Ez n_i_AreKeys [v] H (Is (.bool (areKeys l)) H) := by
  have hlen := hl.1
  refine k_i_AreKeys rfl ?_
  simp only [R1, R, Nat.reduceBEq, Nat.reduceAdd, b_i_AreKeys, hS.r]
  refine AWP_for l.length (fun k t H' => H' = H ∧ ∀ j, j < k → keyAt l j = true) rfl rfl (by omega) ⟨rfl, by omega⟩ rfl ?_ ?_
  · rintro k t H' hk hi hn hT ⟨rfl, hI⟩
    have h0 : t 0 = v := hT 0 rfl
    have h5 : t 5 = v := hT 5 rfl
    simp (disch := first | omega | assumption | (simp only [size_alloc, size_put] <;> omega) | (simp only [RK, Nat.reduceAdd] <;> omega) | fail) only [R1, R, Nat.reduceBEq, Nat.reduceAdd, L_i_AreKeys_0, hi, h0, h5, hn, hS.r, IsKey_eq (hl.at k)]
    cases h1 : isKey (l.getD k default) with
    | false =>
      simp (disch := first | omega | assumption | (simp only [size_alloc, size_put] <;> omega) | (simp only [RK, Nat.reduceAdd] <;> omega) | fail) only [R1, R, Nat.reduceBEq, Nat.reduceAdd]
      refine .mk ?_
      rw [areKeys, range_false hk (by simp only [keyAt, h1]; rfl)]; rfl
    | true =>
      simp (disch := first | omega | assumption | (simp only [size_alloc, size_put] <;> omega) | (simp only [RK, Nat.reduceAdd] <;> omega) | fail) only [R1, R, Nat.reduceBEq, Nat.reduceAdd]
      refine AGd_split (fun h => ?_) (fun h => ?_) <;> simp (disch := first | omega | assumption | (simp only [size_alloc, size_put] <;> omega) | (simp only [RK, Nat.reduceAdd] <;> omega) | fail) only [R1, R, Nat.reduceBEq, Nat.reduceAdd, h]
      · simp only [decide_eq_true_eq] at h
        have e1 : (k : Int) - 1 = ((k - 1 : Nat) : Int) := by omega
        simp (disch := first | omega | assumption | (simp only [size_alloc, size_put] <;> omega) | (simp only [RK, Nat.reduceAdd] <;> omega) | fail) only [R1, R, Nat.reduceBEq, Nat.reduceAdd, h0, e1, hS.r]
        refine ACond_split (fun h' => ?_) (fun h' => ?_) <;> simp only [R1, R, Nat.reduceBEq, Nat.reduceAdd, h']
        · refine .mk ?_
          rw [areKeys, range_false hk (by simp only [keyAt, h1, h, h']; rfl)]; rfl
        · exact ⟨trivial, lt_succ_all hI (by simp only [keyAt, h1, h, h']; rfl)⟩
      · exact ⟨trivial, lt_succ_all hI (by simp only [keyAt, h1, h]; rfl)⟩
  · rintro t H' hi hn hT ⟨rfl, hI⟩
    have h0 : t 0 = v := hT 0 rfl
    simp (disch := first | omega | assumption | (simp only [size_alloc, size_put] <;> omega) | (simp only [RK, Nat.reduceAdd] <;> omega) | fail) only [R1, R, Nat.reduceBEq, Nat.reduceAdd, h0, hS.r]
    refine .mk ?_
    rw [areKeys, range_true hI]; rfl
theorem AreKeys_eq {v : Value} {l : List Str} {Q : CPost} (hS : Strs H v l) (hl : AllS l) : ACalls Ez 114 [v] H Q = Q (.bool (areKeys l)) H := (AreKeys_ok hS hl).eq

theorem biKeys_ok {v : Value} {l : List Str} (hS : Strs H v l) (hl : AllS l) : ACalls Ez n_s_biKeys [v] H (Is (.bool (areKeys l)) H) := by
  have hlen := hl.1
  refine k_s_biKeys rfl ?_
  simp only [R1, R, Nat.reduceBEq, Nat.reduceAdd, b_s_biKeys, hS.r]
  refine AWP_for l.length (fun k t H' => H' = H ∧ ∀ j, j < k → keyAt l j = true) rfl rfl (by omega) ⟨rfl, by omega⟩ rfl ?_ ?_
  · rintro k t H' hk hi hn hT ⟨rfl, hI⟩
    have h0 : t 0 = v := hT 0 rfl
    have h5 : t 5 = v := hT 5 rfl
    simp (disch := first | omega | assumption | (simp only [size_alloc, size_put] <;> omega) | (simp only [RK, Nat.reduceAdd] <;> omega) | fail) only [R1, R, Nat.reduceBEq, Nat.reduceAdd, L_s_biKeys_0, hi, h0, h5, hn, hS.r, sIsKey_eq (hl.at k)]
    cases h1 : isKey (l.getD k default) with
    | false =>
      simp (disch := first | omega | assumption | (simp only [size_alloc, size_put] <;> omega) | (simp only [RK, Nat.reduceAdd] <;> omega) | fail) only [R1, R, Nat.reduceBEq, Nat.reduceAdd]
      refine .mk ?_
      rw [areKeys, range_false hk (by simp only [keyAt, h1]; rfl)]; rfl
    | true =>
      simp (disch := first | omega | assumption | (simp only [size_alloc, size_put] <;> omega) | (simp only [RK, Nat.reduceAdd] <;> omega) | fail) only [R1, R, Nat.reduceBEq, Nat.reduceAdd]
      refine AGd_split (fun h => ?_) (fun h => ?_) <;> simp (disch := first | omega | assumption | (simp only [size_alloc, size_put] <;> omega) | (simp only [RK, Nat.reduceAdd] <;> omega) | fail) only [R1, R, Nat.reduceBEq, Nat.reduceAdd, h]
      · simp only [decide_eq_true_eq] at h
        have e1 : (k : Int) - 1 = ((k - 1 : Nat) : Int) := by omega
        simp (disch := first | omega | assumption | (simp only [size_alloc, size_put] <;> omega) | (simp only [RK, Nat.reduceAdd] <;> omega) | fail) only [R1, R, Nat.reduceBEq, Nat.reduceAdd, h0, e1, hS.r]
        refine ACond_split (fun h' => ?_) (fun h' => ?_) <;> simp only [R1, R, Nat.reduceBEq, Nat.reduceAdd, h']
        · refine .mk ?_
          rw [areKeys, range_false hk (by simp only [keyAt, h1, h, h']; rfl)]; rfl
        · exact ⟨trivial, lt_succ_all hI (by simp only [keyAt, h1, h, h']; rfl)⟩
      · exact ⟨trivial, lt_succ_all hI (by simp only [keyAt, h1, h]; rfl)⟩
  · rintro t H' hi hn hT ⟨rfl, hI⟩
    have h0 : t 0 = v := hT 0 rfl
    simp (disch := first | omega | assumption | (simp only [size_alloc, size_put] <;> omega) | (simp only [RK, Nat.reduceAdd] <;> omega) | fail) only [R1, R, Nat.reduceBEq, Nat.reduceAdd, h0, hS.r]
    refine .mk ?_
    rw [areKeys, range_true hI]; rfl
theorem biKeys_eq {v : Value} {l : List Str} {Q : CPost} (hS : Strs H v l) (hl : AllS l) : ACalls Ez 116 [v] H Q = Q (.bool (areKeys l)) H := (biKeys_ok hS hl).eq

/-- b begins a -/
def begins (a b : Str) : Bool := decide ((b.length : Int) ≤ a.length) && decide (a.take b.length = b)

theorem sHasPrefix_ok {a b : Str} : ACalls Ez n_internal_stringslite_HasPrefix [sv a, sv b] H (Is (.bool (begins a b)) H) := by
  refine k_internal_stringslite_HasPrefix rfl ?_
  simp (disch := first | omega | assumption | (simp only [size_alloc, size_put] <;> omega) | (simp only [RK, Nat.reduceAdd] <;> omega) | fail) only [R1, R, Nat.reduceBEq, Nat.reduceAdd, b_internal_stringslite_HasPrefix]
  refine AGd_split (fun h => ?_) (fun h => ?_) <;> simp (disch := first | omega | assumption | (simp only [size_alloc, size_put] <;> omega) | (simp only [RK, Nat.reduceAdd] <;> omega) | fail) only [R1, R, Nat.reduceBEq, Nat.reduceAdd, h]
  · simp only [decide_eq_true_eq] at h
    simp (disch := first | omega | assumption | (simp only [size_alloc, size_put] <;> omega) | (simp only [RK, Nat.reduceAdd] <;> omega) | fail) only [R1, R, Nat.reduceBEq, Nat.reduceAdd]
    refine .mk ?_
    simp [begins, h]
  · refine .mk ?_
    simp only [begins, h]; rfl
theorem HasPrefix_eq {a b : Str} {Q : CPost} : ACalls Ez 184 [sv a, sv b] H Q = Q (.bool (begins a b)) H := by
  refine ACalls.eq ?_
  refine k_strings_HasPrefix rfl ?_
  simp only [R1, R, Nat.reduceBEq, Nat.reduceAdd, b_strings_HasPrefix]
  refine sHasPrefix_ok.is ?_
  simp only [R1, R, Nat.reduceBEq, Nat.reduceAdd]
  exact .mk rfl
theorem trBegins_eq {a b : Str} {Q : CPost} : ACalls Ez 180 [sv a, sv b] H Q = Q (.bool (begins a b)) H := by
  refine ACalls.eq (k_s_trBegins rfl ?_)
  simp (disch := first | omega | assumption | (simp only [size_alloc, size_put] <;> omega) | (simp only [RK, Nat.reduceAdd] <;> omega) | fail) only [R1, R, Nat.reduceBEq, Nat.reduceAdd, b_s_trBegins]
  refine AGd_split (fun h => ?_) (fun h => ?_) <;> simp (disch := first | omega | assumption | (simp only [size_alloc, size_put] <;> omega) | (simp only [RK, Nat.reduceAdd] <;> omega) | fail) only [R1, R, Nat.reduceBEq, Nat.reduceAdd, h]
  · simp only [decide_eq_true_eq] at h
    simp (disch := first | omega | assumption | (simp only [size_alloc, size_put] <;> omega) | (simp only [RK, Nat.reduceAdd] <;> omega) | fail) only [R1, R, Nat.reduceBEq, Nat.reduceAdd]
    refine .mk ?_
    simp [begins, h]
  · refine .mk ?_
    simp only [begins, h]; rfl
end Go.AE
set_option linter.unusedVariables false
set_option linter.unusedSimpArgs false
namespace Go.AE
variable {H : AH}

/-- the first place of a string in a list, or -1 -/
def fnd : List Str → Str → Int
  | [], _ => -1
  | a :: l, s => if a = s then 0 else (if fnd l s < 0 then -1 else fnd l s + 1)

theorem fnd_lo {l : List Str} {s : Str} : -1 ≤ fnd l s := by
  induction l with
  | nil => simp [fnd]
  | cons a l ih => simp only [fnd]; split <;> (try split) <;> omega
theorem fnd_hi {l : List Str} {s : Str} : fnd l s < l.length + 1 := by
  induction l with
  | nil => simp [fnd]
  | cons a l ih => simp only [fnd, List.length_cons]; split <;> (try split) <;> omega
theorem fnd_none {l : List Str} {s : Str} (h : ∀ k, k < l.length → l.getD k default ≠ s) : fnd l s = -1 := by
  induction l with
  | nil => rfl
  | cons a l ih =>
    have h0 : a ≠ s := h 0 (by simp)
    have h1 : fnd l s = -1 := ih fun k hk => h (k + 1) (by simp; omega)
    simp only [fnd, if_neg h0, h1]; rfl
theorem fnd_at {l : List Str} {s : Str} {k : Nat} (hk : k < l.length) (h : l.getD k default = s) (hl : ∀ j, j < k → l.getD j default ≠ s) : fnd l s = k := by
  induction l generalizing k with
  | nil => simp at hk
  | cons a l ih =>
    cases k with
    | zero =>
      have : a = s := h
      simp only [fnd, if_pos this]; rfl
    | succ k =>
      have h0 : a ≠ s := hl 0 (by omega)
      have h1 := ih (k := k) (by simpa using hk) h fun j hj => hl (j + 1) (by omega)
      simp only [fnd, if_neg h0, h1]
      rw [if_neg (by omega)]; rfl
theorem fnd_iff {l : List Str} {s : Str} : 0 ≤ fnd l s ↔ s ∈ l := by
  induction l with
  | nil => simp [fnd]
  | cons a l ih =>
    rw [List.mem_cons, ← ih]
    simp only [fnd]
    by_cases h : a = s
    · simp [h]
    · rw [if_neg h]
      have := @fnd_lo l s
      constructor
      · intro h1; right; split at h1 <;> omega
      · rintro (rfl | h1)
        · exact absurd rfl h
        · rw [if_neg (by omega)]; omega
theorem fnd_mem {l : List Str} {s : Str} : decide (0 ≤ fnd l s) = l.contains s := by
  rw [Bool.eq_iff_iff, decide_eq_true_eq, fnd_iff, List.contains_iff_mem]

theorem Index_ok {v : Value} {l : List Str} {s : Str} (hS : Strs H v l) (hl : l.length ≤ 1099511627776) : ACalls Ez n_slices_Index_Lstring_string [v, sv s] H (Is (.int .i64 (fnd l s)) H) := by
  refine k_slices_Index_Lstring_string rfl ?_
  simp only [R1, R, Nat.reduceBEq, Nat.reduceAdd, b_slices_Index_Lstring_string, hS.r]
  refine AWP_for l.length (fun k t H' => H' = H ∧ ∀ j, j < k → l.getD j default ≠ s) rfl rfl (by omega) ⟨rfl, by omega⟩ rfl ?_ ?_
  · rintro k t H' hk hi hn hT ⟨rfl, hI⟩
    have h0 : t 0 = v := hT 0 rfl
    have h1 : t 1 = sv s := hT 1 rfl
    simp (disch := first | omega | assumption | (simp only [size_alloc, size_put] <;> omega) | (simp only [RK, Nat.reduceAdd] <;> omega) | fail) only [R1, R, Nat.reduceBEq, Nat.reduceAdd, L_slices_Index_Lstring_string_0, hi, h0, h1, hn, hS.r]
    refine ACond_split (fun h => ?_) (fun h => ?_) <;> simp only [R1, R, Nat.reduceBEq, Nat.reduceAdd]
    · simp only [decide_eq_true_eq] at h
      exact .mk (by rw [fnd_at hk h.symm hI])
    · simp only [decide_eq_false_iff_not] at h
      exact ⟨trivial, lt_succ_all hI fun e => h e.symm⟩
  · rintro t H' hi hn hT ⟨rfl, hI⟩
    simp (disch := first | omega | assumption | (simp only [size_alloc, size_put] <;> omega) | (simp only [RK, Nat.reduceAdd] <;> omega) | fail) only [R1, R, Nat.reduceBEq, Nat.reduceAdd]
    exact .mk (by rw [fnd_none hI])
theorem Index_eq {v : Value} {l : List Str} {s : Str} {Q : CPost} (hS : Strs H v l) (hl : l.length ≤ 1099511627776) : ACalls Ez 240 [v, sv s] H Q = Q (.int .i64 (fnd l s)) H := (Index_ok hS hl).eq
theorem Contains_eq {v : Value} {l : List Str} {s : Str} {Q : CPost} (hS : Strs H v l) (hl : l.length ≤ 1099511627776) : ACalls Ez 187 [v, sv s] H Q = Q (.bool (l.contains s)) H := by
  refine ACalls.eq (k_slices_Contains_Lstring_string rfl ?_)
  simp only [R1, R, Nat.reduceBEq, Nat.reduceAdd, b_slices_Contains_Lstring_string, Index_eq hS hl]
  exact .mk (by rw [fnd_mem])
theorem placedAt_eq {v : Value} {l : List Str} {s : Str} {Q : CPost} (hS : Strs H v l) (hl : l.length ≤ 1099511627776) :
    ACalls Ez 170 [v, sv s] H Q = Q (.tuple #[.int .i64 (if fnd l s < 0 then 0 else fnd l s), .bool (decide (0 ≤ fnd l s))]) H := by
  refine ACalls.eq (k_i_placedAt rfl ?_)
  simp only [R1, R, Nat.reduceBEq, Nat.reduceAdd, b_i_placedAt, Index_eq hS hl]
  exact .mk rfl
theorem trFind_ok {v : Value} {l : List Str} {s : Str} (hS : Strs H v l) (hl : l.length ≤ 1099511627776) : ACalls Ez n_s_trFind [v, sv s] H (Is (.int .i64 (fnd l s)) H) := by
  refine k_s_trFind rfl ?_
  simp only [R1, R, Nat.reduceBEq, Nat.reduceAdd, b_s_trFind, hS.r]
  refine AWP_for l.length (fun k t H' => H' = H ∧ ∀ j, j < k → l.getD j default ≠ s) rfl rfl (by omega) ⟨rfl, by omega⟩ rfl ?_ ?_
  · rintro k t H' hk hi hn hT ⟨rfl, hI⟩
    have h7 : t 7 = v := hT 7 rfl
    have h1 : t 1 = sv s := hT 1 rfl
    simp (disch := first | omega | assumption | (simp only [size_alloc, size_put] <;> omega) | (simp only [RK, Nat.reduceAdd] <;> omega) | fail) only [R1, R, Nat.reduceBEq, Nat.reduceAdd, L_s_trFind_0, hi, h7, h1, hn, hS.r]
    refine ACond_split (fun h => ?_) (fun h => ?_) <;> simp only [R1, R, Nat.reduceBEq, Nat.reduceAdd]
    · simp only [decide_eq_true_eq] at h
      exact .mk (by rw [fnd_at hk h hI])
    · simp only [decide_eq_false_iff_not] at h
      exact ⟨trivial, lt_succ_all hI h⟩
  · rintro t H' hi hn hT ⟨rfl, hI⟩
    simp (disch := first | omega | assumption | (simp only [size_alloc, size_put] <;> omega) | (simp only [RK, Nat.reduceAdd] <;> omega) | fail) only [R1, R, Nat.reduceBEq, Nat.reduceAdd]
    exact .mk (by rw [fnd_none hI])
theorem trFind_eq {v : Value} {l : List Str} {s : Str} {Q : CPost} (hS : Strs H v l) (hl : l.length ≤ 1099511627776) : ACalls Ez 167 [v, sv s] H Q = Q (.int .i64 (fnd l s)) H := (trFind_ok hS hl).eq
theorem l1HasS_eq {v : Value} {l : List Str} {s : Str} {Q : CPost} (hS : Strs H v l) (hl : l.length ≤ 1099511627776) : ACalls Ez 173 [v, sv s] H Q = Q (.bool (l.contains s)) H := by
  refine ACalls.eq (k_s_l1HasS rfl ?_)
  simp only [R1, R, Nat.reduceBEq, Nat.reduceAdd, b_s_l1HasS, hS.r]
  refine AWP_for l.length (fun k t H' => H' = H ∧ ∀ j, j < k → l.getD j default ≠ s) rfl rfl (by omega) ⟨rfl, by omega⟩ rfl ?_ ?_
  · rintro k t H' hk hi hn hT ⟨rfl, hI⟩
    have h7 : t 7 = v := hT 7 rfl
    have h1 : t 1 = sv s := hT 1 rfl
    simp (disch := first | omega | assumption | (simp only [size_alloc, size_put] <;> omega) | (simp only [RK, Nat.reduceAdd] <;> omega) | fail) only [R1, R, Nat.reduceBEq, Nat.reduceAdd, L_s_l1HasS_0, hi, h7, h1, hn, hS.r]
    refine ACond_split (fun h => ?_) (fun h => ?_) <;> simp only [R1, R, Nat.reduceBEq, Nat.reduceAdd]
    · simp only [decide_eq_true_eq] at h
      exact .mk (by rw [← fnd_mem, fnd_at hk h hI]; simp)
    · simp only [decide_eq_false_iff_not] at h
      exact ⟨trivial, lt_succ_all hI h⟩
  · rintro t H' hi hn hT ⟨rfl, hI⟩
    simp (disch := first | omega | assumption | (simp only [size_alloc, size_put] <;> omega) | (simp only [RK, Nat.reduceAdd] <;> omega) | fail) only [R1, R, Nat.reduceBEq, Nat.reduceAdd]
    exact .mk (by rw [← fnd_mem, fnd_none hI]; rfl)

/-! ### bits -/

theorem words_eq {n : Int} {Q : CPost} (h : 0 ≤ n ∧ n ≤ 1099511627776) : ACalls Ez 227 [.int .i64 n] H Q = Q (.int .i64 ((n + 15) / 16)) H := by
  refine ACalls.eq (k_i_words rfl ?_)
  simp (disch := first | omega | assumption | (simp only [size_alloc, size_put] <;> omega) | (simp only [RK, Nat.reduceAdd] <;> omega) | fail) only [R1, R, Nat.reduceBEq, Nat.reduceAdd, b_i_words]
  exact .mk (by rw [show n + 16 - 1 = n + 15 by omega])

def wordOk (w : Int) : Bool := decide (0 ≤ w) && decide (w ≤ 65535)
def isBits (n : Int) (ws : List Int) : Bool :=
  (decide (0 ≤ n) && decide (n ≤ 4096)) && (decide ((ws.length : Int) = (n + 15) / 16) && (ws.all wordOk && (decide (n % 16 = 0) || decide ((ws.getD (ws.length - 1) default).toNat >>> (n % 16).toNat = 0))))

theorem l1All_eq {v : Value} {ws : List Int} {Q : CPost} (hS : Ints H v ws) (hl : ws.length ≤ 1099511627776) : ACalls Ez 199 [v, .int .i64 0, .int .i64 65535] H Q = Q (.bool (ws.all wordOk)) H := by
  refine ACalls.eq (k_s_l1All rfl ?_)
  simp only [R1, R, Nat.reduceBEq, Nat.reduceAdd, b_s_l1All, hS.r]
  refine AWP_for ws.length (fun k t H' => H' = H ∧ ∀ j, j < k → wordOk (ws.getD j default) = true) rfl rfl (by omega) ⟨rfl, by omega⟩ rfl ?_ ?_
  · rintro k t H' hk hi hn hT ⟨rfl, hI⟩
    have h9 : t 9 = v := hT 9 rfl
    have h1 : t 1 = .int .i64 0 := hT 1 rfl
    have h2 : t 2 = .int .i64 65535 := hT 2 rfl
    simp (disch := first | omega | assumption | (simp only [size_alloc, size_put] <;> omega) | (simp only [RK, Nat.reduceAdd] <;> omega) | fail) only [R1, R, Nat.reduceBEq, Nat.reduceAdd, L_s_l1All_0, hi, h9, h1, h2, hn, hS.r, l1In_eq]
    refine ACond_split (fun h => ?_) (fun h => ?_) <;> simp only [R1, R, Nat.reduceBEq, Nat.reduceAdd]
    · exact .mk (by rw [all_false hk ((Bool.not_eq_true' _).mp h)])
    · exact ⟨trivial, lt_succ_all hI ((Bool.not_eq_false' _).mp h)⟩
  · rintro t H' hi hn hT ⟨rfl, hI⟩
    simp (disch := first | omega | assumption | (simp only [size_alloc, size_put] <;> omega) | (simp only [RK, Nat.reduceAdd] <;> omega) | fail) only [R1, R, Nat.reduceBEq, Nat.reduceAdd]
    exact .mk (by rw [all_true hI])

theorem shr_last {kd : Nat} {c : Bool} {w : Int} {n : Int} (h : wordOk w = true) (hn : 0 ≤ n) : opBin kd c .shr (.int .i64 w) (.int .i64 (n % 16)) = some (.int .i64 ((w.toNat >>> (n % 16).toNat : Nat) : Int)) := by
  simp only [wordOk, Bool.and_eq_true, decide_eq_true_eq] at h
  have e1 : w = (w.toNat : Int) := by omega
  have e2 : n % 16 = ((n % 16).toNat : Int) := by omega
  rw [e1, e2, nat_shr (by omega)]
  simp only [Int.toNat_natCast]


theorem IsBits_ok {v : Value} {n : Int} {ws : List Int} (hS : Ints H v ws) (hl : ws.length ≤ 1099511627776) : ACalls Ez n_i_IsBits [.agg #[.int .i64 n, v]] H (Ret (.bool (isBits n ws)) H) := by
  refine k_i_IsBits rfl ?_
  have hA : Kp H (H.alloc ⟨[.int .i64 n, v], 0⟩) := Kp.refl.alloc
  have hS' := hS.kp hA
  simp only [R1, R, Nat.reduceBEq, Nat.reduceAdd, b_i_IsBits, in_eq]
  cases hb : (decide (0 ≤ n) && decide (n ≤ 4096)) with
  | false =>
    simp only [R1, R, Nat.reduceBEq, Nat.reduceAdd]
    refine ADr_fin (ck_cons (ckPair_of rfl rfl rfl rfl fun _ _ => rfl) ck_nil) ?_
    simp only [R1, R, Nat.reduceBEq, Nat.reduceAdd]
    exact ⟨by rw [isBits, hb]; rfl, hA⟩
  | true =>
    have hb' := hb
    simp only [Bool.and_eq_true, decide_eq_true_eq] at hb'
    simp (disch := first | omega | assumption | (simp only [size_alloc, size_put] <;> omega) | (simp only [RK, Nat.reduceAdd] <;> omega) | fail) only [R1, R, Nat.reduceBEq, Nat.reduceAdd, hS'.r, words_eq]
    refine ADr_fin (ck_cons (ckPair_of rfl rfl rfl rfl fun _ _ => rfl) ck_nil) ?_
    simp only [R1, R, Nat.reduceBEq, Nat.reduceAdd]
    cases hw : decide ((ws.length : Int) = (n + 15) / 16) with
    | false =>
      simp only [R1, R, Nat.reduceBEq, Nat.reduceAdd]
      exact ⟨by rw [isBits, hb, hw]; rfl, hA⟩
    | true =>
      have hw' := hw
      simp only [decide_eq_true_eq] at hw'
      simp only [R1, R, Nat.reduceBEq, Nat.reduceAdd, hS'.r]
      refine AWP_for ws.length (fun k t H' => H' = H.alloc ⟨[.int .i64 n, v], 0⟩ ∧ ∀ j, j < k → wordOk (ws.getD j default) = true) rfl rfl (by omega) ⟨rfl, by omega⟩ rfl ?_ ?_
      · rintro k t H' hk hi hn hT ⟨rfl, hI⟩
        have h20 : t 20 = v := hT 20 rfl
        simp (disch := first | omega | assumption | (simp only [size_alloc, size_put] <;> omega) | (simp only [RK, Nat.reduceAdd] <;> omega) | fail) only [R1, R, Nat.reduceBEq, Nat.reduceAdd, L_i_IsBits_0, hi, h20, hn, hS'.r, in_eq]
        refine ACond_split (fun h => ?_) (fun h => ?_) <;> simp only [R1, R, Nat.reduceBEq, Nat.reduceAdd]
        · exact ⟨by rw [isBits, hb, hw, all_false hk ((Bool.not_eq_true' _).mp h)]; rfl, hA⟩
        · exact ⟨trivial, lt_succ_all hI ((Bool.not_eq_false' _).mp h)⟩
      · rintro t H' hi hn hT ⟨rfl, hI⟩
        have h1 : t 1 = .pointer (some ⟨H.size, 0, none⟩) := hT 1 rfl
        have h20 : t 20 = v := hT 20 rfl
        have hall := all_true hI
        simp (disch := first | omega | assumption | (simp only [size_alloc, size_put] <;> omega) | (simp only [RK, Nat.reduceAdd] <;> omega) | fail) only [R1, R, Nat.reduceBEq, Nat.reduceAdd, h1]
        cases hr : decide (n % 16 = 0) with
        | true =>
          simp only [R1, R, Nat.reduceBEq, Nat.reduceAdd]
          exact ⟨by rw [isBits, hb, hw, hall, hr]; rfl, hA⟩
        | false =>
          simp only [decide_eq_false_iff_not] at hr
          have e1 : (ws.length : Int) - 1 = ((ws.length - 1 : Nat) : Int) := by omega
          have hlast := hI (ws.length - 1) (by omega)
          simp (disch := first | omega | assumption | (simp only [size_alloc, size_put] <;> omega) | (simp only [RK, Nat.reduceAdd] <;> omega) | fail) only [R1, R, Nat.reduceBEq, Nat.reduceAdd, h1, hS'.r, e1, shr_last hlast]
          refine ⟨?_, hA⟩
          rw [isBits, hb, hw, hall, decide_eq_false hr]
          simp only [Bool.true_and, Bool.false_or, Value.bool.injEq]
          rw [Bool.eq_iff_iff]; simp only [decide_eq_true_eq]; omega
end Go.AE
set_option linter.unusedVariables false
set_option linter.unusedSimpArgs false
namespace Go.AE
variable {H : AH}

theorem IsBits_ret {v : Value} {n : Int} {ws : List Int} {Q : CPost} (hS : Ints H v ws) (hl : ws.length ≤ 1099511627776) (hq : ∀ H', Kp H H' → Q (.bool (isBits n ws)) H') : ACalls Ez 149 [.agg #[.int .i64 n, v]] H Q := (IsBits_ok hS hl).ret hq

theorem biGood_ok {v : Value} {n : Int} {ws : List Int} (hS : Ints H v ws) (hl : ws.length ≤ 1099511627776) : ACalls Ez n_s_biGood [.agg #[.int .i64 n, v]] H (Ret (.bool (isBits n ws)) H) := by
  refine k_s_biGood rfl ?_
  have hA : Kp H (H.alloc ⟨[.int .i64 n, v], 0⟩) := Kp.refl.alloc
  have hS' := hS.kp hA
  simp only [R1, R, Nat.reduceBEq, Nat.reduceAdd, b_s_biGood, l1In_eq]
  cases hb : (decide (0 ≤ n) && decide (n ≤ 4096)) with
  | false =>
    simp only [R1, R, Nat.reduceBEq, Nat.reduceAdd]
    exact ⟨by rw [isBits, hb]; rfl, hA⟩
  | true =>
    have hb' := hb
    simp only [Bool.and_eq_true, decide_eq_true_eq] at hb'
    simp (disch := first | omega | assumption | (simp only [size_alloc, size_put] <;> omega) | (simp only [RK, Nat.reduceAdd] <;> omega) | fail) only [R1, R, Nat.reduceBEq, Nat.reduceAdd, hS'.r]
    cases hw : decide ((ws.length : Int) = (n + 15) / 16) with
    | false =>
      simp only [R1, R, Nat.reduceBEq, Nat.reduceAdd]
      exact ⟨by rw [isBits, hb, hw]; rfl, hA⟩
    | true =>
      have hw' := hw
      simp only [decide_eq_true_eq] at hw'
      simp only [R1, R, Nat.reduceBEq, Nat.reduceAdd, l1All_eq hS' hl]
      cases hall : ws.all wordOk with
      | false =>
        simp only [R1, R, Nat.reduceBEq, Nat.reduceAdd]
        exact ⟨by rw [isBits, hb, hw, hall]; rfl, hA⟩
      | true =>
        simp (disch := first | omega | assumption | (simp only [size_alloc, size_put] <;> omega) | (simp only [RK, Nat.reduceAdd] <;> omega) | fail) only [R1, R, Nat.reduceBEq, Nat.reduceAdd]
        cases hr : decide (n % 16 = 0) with
        | true =>
          simp only [R1, R, Nat.reduceBEq, Nat.reduceAdd]
          exact ⟨by rw [isBits, hb, hw, hall, hr]; rfl, hA⟩
        | false =>
          simp only [decide_eq_false_iff_not] at hr
          have e1 : (ws.length : Int) - 1 = ((ws.length - 1 : Nat) : Int) := by omega
          have hlast : wordOk (ws.getD (ws.length - 1) default) = true := by
            rw [List.all_eq_true] at hall
            have hlt : ws.length - 1 < ws.length := by omega
            rw [getD_eq hlt]; exact hall _ (List.getElem_mem hlt)
          simp (disch := first | omega | assumption | (simp only [size_alloc, size_put] <;> omega) | (simp only [RK, Nat.reduceAdd] <;> omega) | fail) only [R1, R, Nat.reduceBEq, Nat.reduceAdd, hS'.r, e1, shr_last hlast]
          refine ⟨?_, hA⟩
          rw [isBits, hb, hw, hall, decide_eq_false hr]
          simp only [Bool.true_and, Bool.false_or, Value.bool.injEq]
          rw [Bool.eq_iff_iff]; simp only [decide_eq_true_eq]; omega
theorem biGood_ret {v : Value} {n : Int} {ws : List Int} {Q : CPost} (hS : Ints H v ws) (hl : ws.length ≤ 1099511627776) (hq : ∀ H', Kp H H' → Q (.bool (isBits n ws)) H') : ACalls Ez 221 [.agg #[.int .i64 n, v]] H Q := (biGood_ok hS hl).ret hq

/-! ### one bit -/

/-- words of 16 bits -/
def Words (ws : List Nat) : Prop := ∀ w ∈ ws, w < 65536
theorem Words.at {ws : List Nat} (h : Words ws) (i : Nat) : ws.getD i default < 65536 := by
  by_cases hi : i < ws.length
  · rw [getD_eq hi]; exact h _ (List.getElem_mem hi)
  · simp [List.getD, List.getElem?_eq_none (Nat.le_of_not_lt hi)]
def bitAt (ws : List Nat) (i : Nat) : Bool := (ws.getD (i / 16) default).testBit (i % 16)

theorem nd16 {i : Nat} : (i : Int) / 16 = ((i / 16 : Nat) : Int) := by omega
theorem nm16 {i : Nat} : (i : Int) % 16 = ((i % 16 : Nat) : Int) := by omega
theorem bit_eq {w i : Nat} : decide (((w >>> i &&& 1 : Nat) : Int) = 1) = w.testBit i := by
  rw [Bool.eq_iff_iff, decide_eq_true_eq, Nat.testBit, Nat.and_comm, bne_iff_ne]
  have h : 1 &&& w >>> i = (w >>> i) % 2 := by rw [Nat.and_comm, Nat.and_one_is_mod]
  rw [h]; omega
theorem bit_shr {kd : Nat} {c : Bool} {w i : Nat} (hw : w < 65536) : opBin kd c .and (.int .i64 ((w >>> (i % 16) : Nat) : Int)) (.int .i64 1) = some (.int .i64 ((w >>> (i % 16) &&& 1 : Nat) : Int)) := by
  have hle : w >>> (i % 16) ≤ w := Nat.shiftRight_le _ _
  exact nat_and (b := 1) ⟨by omega, by decide⟩

theorem at_eq {b o i : Nat} {v : Value} {ws : List Nat} {Q : CPost} (hp : opLoad none (.pointer (some ⟨b, o + 1, none⟩)) H = some v) (hS : Nats H v ws) (hw : Words ws) (hi : i / 16 < ws.length) (hb : i ≤ 1099511627776) :
    ACalls Ez 129 [.pointer (some ⟨b, o, none⟩), .int .i64 i] H Q = Q (.bool (bitAt ws i)) H := by
  refine ACalls.eq (k_i_Bits_at rfl ?_)
  simp (disch := first | omega | assumption | (simp only [size_alloc, size_put] <;> omega) | (simp only [RK, Nat.reduceAdd] <;> omega) | fail) only [R1, R, Nat.reduceBEq, Nat.reduceAdd, b_i_Bits_at, hp, nd16, nm16, hS.r, nv, nat_shr, bit_shr (hw.at (i / 16)), bit_eq]
  exact .mk rfl
theorem biAt_ok {n : Int} {i : Nat} {v : Value} {ws : List Nat} (hS : Nats H v ws) (hw : Words ws) (hi : i / 16 < ws.length) (hb : i ≤ 1099511627776) :
    ACalls Ez n_s_biAt [.agg #[.int .i64 n, v], .int .i64 i] H (Ret (.bool (bitAt ws i)) H) := by
  refine k_s_biAt rfl ?_
  have hS' := hS.kp (Kp.refl.alloc (b := ⟨[.int .i64 n, v], 0⟩))
  simp (disch := first | omega | assumption | (simp only [size_alloc, size_put] <;> omega) | (simp only [RK, Nat.reduceAdd] <;> omega) | fail) only [R1, R, Nat.reduceBEq, Nat.reduceAdd, b_s_biAt, nd16, nm16, hS'.r, nv, nat_shr, bit_shr (hw.at (i / 16)), bit_eq]
  exact ⟨rfl, Kp.refl.alloc⟩
end Go.AE
set_option linter.unusedVariables false
set_option linter.unusedSimpArgs false
namespace Go.AE
variable {H : AH}

/-! ### the words of a list of bits -/

theorem words_ext {a b : List Nat} (hl : a.length = b.length) (ha : Words a) (hb : Words b) (h : ∀ i, bitAt a i = bitAt b i) : a = b := by
  apply List.ext_getElem hl
  intro j h1 h2
  apply Nat.eq_of_testBit_eq
  intro i
  by_cases hi : i < 16
  · have := h (16 * j + i)
    unfold bitAt at this
    rw [show (16 * j + i) / 16 = j by omega, show (16 * j + i) % 16 = i by omega, getD_eq h1, getD_eq h2] at this
    exact this
  · have e1 : a[j] < 2 ^ i := Nat.lt_of_lt_of_le (ha _ (List.getElem_mem h1)) (Nat.pow_le_pow_right (n := 2) (by omega) (show 16 ≤ i by omega))
    have e2 : b[j] < 2 ^ i := Nat.lt_of_lt_of_le (hb _ (List.getElem_mem h2)) (Nat.pow_le_pow_right (n := 2) (by omega) (show 16 ≤ i by omega))
    rw [Nat.testBit_lt_two_pow e1, Nat.testBit_lt_two_pow e2]

def offBit (w i : Nat) : Nat := w ^^^ (w &&& 2 ^ i)
theorem offBit_test {w i j : Nat} : (offBit w i).testBit j = (w.testBit j && !decide (i = j)) := by
  unfold offBit
  rw [Nat.testBit_xor, Nat.testBit_and, Nat.testBit_two_pow]
  cases w.testBit j <;> cases decide (i = j) <;> rfl
theorem offBit_lt {w i : Nat} (h : w < 65536) : offBit w i < 65536 :=
  Nat.xor_lt_two_pow (n := 16) h (Nat.lt_of_le_of_lt Nat.and_le_left h)
theorem orBit_lt {w i : Nat} (h : w < 65536) (hi : i < 16) : w ||| 2 ^ i < 65536 :=
  Nat.or_lt_two_pow (n := 16) h (Nat.pow_lt_pow_right (by omega) hi)
def setBit (ws : List Nat) (i : Nat) (on : Bool) : List Nat :=
  ws.set (i / 16) (if on = true then offBit (ws.getD (i / 16) default) (i % 16) ||| 2 ^ (i % 16) else offBit (ws.getD (i / 16) default) (i % 16))
theorem set_getD {ws : List Nat} {a b w : Nat} : (ws.set a w).getD b default = if a = b ∧ a < ws.length then w else ws.getD b default := by
  simp only [List.getD, List.getElem?_set]
  by_cases h : a = b
  · subst h
    rw [if_pos rfl]
    by_cases h2 : a < ws.length
    · simp [h2]
    · simp [h2, List.getElem?_eq_none (Nat.le_of_not_lt h2)]
  · rw [if_neg h, if_neg (fun hh => h hh.1)]
theorem setBit_at {ws : List Nat} {i j : Nat} {on : Bool} (hi : i / 16 < ws.length) : bitAt (setBit ws i on) j = if j = i then on else bitAt ws j := by
  unfold bitAt setBit
  rw [set_getD]
  by_cases hq : i / 16 = j / 16
  · rw [if_pos ⟨hq, hi⟩, ← hq]
    by_cases h : j = i
    · subst h
      rw [if_pos rfl]
      cases on <;> simp [offBit_test, Nat.testBit_or, Nat.testBit_two_pow]
    · rw [if_neg h]
      have hm : i % 16 ≠ j % 16 := by omega
      cases on <;> simp [offBit_test, Nat.testBit_or, Nat.testBit_two_pow, hm]
  · rw [if_neg (fun hh => hq hh.1), if_neg (by rintro rfl; exact hq rfl)]
theorem setBit_words {ws : List Nat} {i : Nat} {on : Bool} (h : Words ws) : Words (setBit ws i on) := by
  intro w hw
  unfold setBit at hw
  rcases List.mem_or_eq_of_mem_set hw with hw | rfl
  · exact h w hw
  · split
    · exact orBit_lt (offBit_lt (h.at _)) (by omega)
    · exact offBit_lt (h.at _)
theorem setBit_length {ws : List Nat} {i : Nat} {on : Bool} : (setBit ws i on).length = ws.length := by simp [setBit]

/-- The words hold the bits of a list. -/
def BitsAre (ws : List Nat) (l : List Bool) : Prop := ws.length = (l.length + 15) / 16 ∧ Words ws ∧ ∀ i, bitAt ws i = l.getD i false

theorem BitsAre.uniq {a b : List Nat} {l : List Bool} (h : BitsAre a l) (h' : BitsAre b l) : a = b :=
  words_ext (h.1.trans h'.1.symm) h.2.1 h'.2.1 fun i => (h.2.2 i).trans (h'.2.2 i).symm
theorem BitsAre.inj {a : List Nat} {l m : List Bool} (h : BitsAre a l) (h' : BitsAre a m) (hl : l.length = m.length) : l = m := by
  apply List.ext_getElem hl
  intro i h1 h2
  have := (h.2.2 i).symm.trans (h'.2.2 i)
  simpa [List.getD, List.getElem?_eq_getElem h1, List.getElem?_eq_getElem h2] using this
theorem BitsAre.zero {n : Nat} : BitsAre (List.replicate ((n + 15) / 16) 0) (List.replicate n false) := by
  refine ⟨by simp, ?_, ?_⟩
  · intro w hw
    rw [List.eq_of_mem_replicate hw]; decide
  · intro i
    unfold bitAt
    have e1 : (List.replicate ((n + 15) / 16) 0).getD (i / 16) default = 0 := by
      simp only [List.getD, List.getElem?_replicate]; split <;> rfl
    have e2 : (List.replicate n false).getD i false = false := by
      simp only [List.getD, List.getElem?_replicate]; split <;> rfl
    rw [e1, e2, Nat.zero_testBit]
theorem BitsAre.set {ws : List Nat} {l : List Bool} {i : Nat} {on : Bool} (h : BitsAre ws l) (hi : i < l.length) : BitsAre (setBit ws i on) (l.set i on) := by
  have hi' : i / 16 < ws.length := by rw [h.1]; omega
  refine ⟨by rw [setBit_length, List.length_set]; exact h.1, setBit_words h.2.1, fun j => ?_⟩
  rw [setBit_at hi', h.2.2]
  simp only [List.getD, List.getElem?_set]
  by_cases hj : j = i
  · subst hj; simp [hi]
  · rw [if_neg hj, if_neg (fun e => hj e.symm)]

/-! ### the functions -/

theorem nv_cells {n : Nat} : (nv n).cells = #[nv n] := rfl
theorem nv_one {n : Nat} : (nv n).oneCell' = true := rfl

theorem set_ok {b o i : Nat} {on : Bool} {v : Value} {ws : List Nat} (hp : opLoad none (.pointer (some ⟨b, o + 1, none⟩)) H = some v) (hS : Nats H v ws) (hw : Words ws) (hi : i / 16 < ws.length)
    (hb : i ≤ 1099511627776) (hlo : ∀ b, blkOf v = some b → H.lo ≤ b) (hd : blkOf v ≠ some b) :
    ACalls Ez n_i_Bits_set [.pointer (some ⟨b, o, none⟩), .int .i64 i, .bool on] H (fun v' H' => v' = .tuple #[] ∧ Nats H' v (setBit ws i on) ∧ KpX (blkOf v) H H') := by
  refine k_i_Bits_set rfl ?_
  have hw0 := hw.at (i / 16)
  have hp2 : 2 ^ (i % 16) < 2 ^ 16 := Nat.pow_lt_pow_right (by omega) (by omega)
  have hst : ∀ {x : Nat}, opStore 1 (elt 1 v (i / 16)) (.int .i64 x) H = some (stH H v (i / 16) (.int .i64 x)) := fun {x} => hS.st (x := nv x) hlo hi nv_cells nv_one
  have hs1 : Nats (stH H v (i / 16) (nv (offBit (ws.getD (i / 16) default) (i % 16)))) v (ws.set (i / 16) (offBit (ws.getD (i / 16) default) (i % 16))) := hS.set hi
  have hand : ∀ {kd : Nat} {c : Bool}, opBin kd c .andNot (.int .i64 (ws.getD (i / 16) default : Nat)) (.int .i64 (2 ^ (i % 16) : Nat)) = some (.int .i64 (offBit (ws.getD (i / 16) default) (i % 16) : Nat)) := fun {kd c} => nat_andNot ⟨by omega, by generalize 2 ^ (i % 16) = m at *; omega⟩
  simp (disch := first | omega | assumption | (simp only [size_alloc, size_put] <;> omega) | (simp only [RK, Nat.reduceAdd] <;> omega) | fail) only [R1, R, Nat.reduceBEq, Nat.reduceAdd, b_i_Bits_set, hp, nd16, nm16, hS.r, nv, nat_shl1, hand, hst]
  cases on with
  | false =>
    simp only [R1, R, Nat.reduceBEq, Nat.reduceAdd]
    exact ⟨trivial, hs1, stH_kpx⟩
  | true =>
    have hlo2 : ∀ b, blkOf v = some b → (stH H v (i / 16) (nv (offBit (ws.getD (i / 16) default) (i % 16)))).lo ≤ b := by rw [lo_st]; exact hlo
    have hi2 : i / 16 < (ws.set (i / 16) (offBit (ws.getD (i / 16) default) (i % 16))).length := by rw [List.length_set]; exact hi
    have hst2 : ∀ {x : Nat}, opStore 1 (elt 1 v (i / 16)) (.int .i64 x) (stH H v (i / 16) (.int .i64 (offBit (ws.getD (i / 16) default) (i % 16) : Nat))) = some (stH (stH H v (i / 16) (.int .i64 (offBit (ws.getD (i / 16) default) (i % 16) : Nat))) v (i / 16) (.int .i64 x)) := fun {x} => hs1.st (x := nv x) hlo2 hi2 nv_cells nv_one
    have hp' : opLoad none (.pointer (some ⟨b, o + 1, none⟩)) (stH H v (i / 16) (.int .i64 (offBit (ws.getD (i / 16) default) (i % 16) : Nat))) = some v := by rw [load_st hd]; exact hp
    have hg : (ws.set (i / 16) (offBit (ws.getD (i / 16) default) (i % 16))).getD (i / 16) default = offBit (ws.getD (i / 16) default) (i % 16) := by rw [set_getD, if_pos ⟨rfl, hi⟩]
    have hld : opLoad none (elt 1 v (i / 16)) (stH H v (i / 16) (.int .i64 (offBit (ws.getD (i / 16) default) (i % 16) : Nat))) = some (.int .i64 (offBit (ws.getD (i / 16) default) (i % 16) : Nat)) := by
      have := hs1.ld hi2
      rw [hg] at this; exact this
    have hof := offBit_lt (i := i % 16) hw0
    have hor : ∀ {kd : Nat} {c : Bool}, opBin kd c .or (.int .i64 (offBit (ws.getD (i / 16) default) (i % 16) : Nat)) (.int .i64 (2 ^ (i % 16) : Nat)) = some (.int .i64 (offBit (ws.getD (i / 16) default) (i % 16) ||| 2 ^ (i % 16) : Nat)) := fun {kd c} => nat_or ⟨by omega, by generalize 2 ^ (i % 16) = m at *; omega⟩
    simp (disch := first | omega | assumption | (simp only [size_alloc, size_put] <;> omega) | (simp only [RK, Nat.reduceAdd] <;> omega) | fail) only [R1, R, Nat.reduceBEq, Nat.reduceAdd, hp', nd16, nm16, hS.r, hld, nat_shl1, hor, hst2]
    refine ⟨trivial, ?_, ?_⟩
    · have := hs1.set (i := i / 16) (x := offBit (ws.getD (i / 16) default) (i % 16) ||| 2 ^ (i % 16)) hi2
      rw [List.set_set] at this
      exact this
    · have e1 := @stH_kpx H v (i / 16) (nv (offBit (ws.getD (i / 16) default) (i % 16)))
      have e2 := @stH_kpx (stH H v (i / 16) (nv (offBit (ws.getD (i / 16) default) (i % 16)))) v (i / 16) (nv (offBit (ws.getD (i / 16) default) (i % 16) ||| 2 ^ (i % 16)))
      exact ⟨e2.1.trans e1.1, Nat.le_trans e1.2.1 e2.2.1, fun j hj hne => (e2.2.2 j (Nat.lt_of_lt_of_le hj e1.2.1) hne).trans (e1.2.2 j hj hne)⟩
end Go.AE
set_option linter.unusedVariables false
set_option linter.unusedSimpArgs false
namespace Go.AE
variable {H : AH}

theorem orBit_eq {w i : Nat} : offBit w i ||| 2 ^ i = w ||| 2 ^ i := by
  apply Nat.eq_of_testBit_eq
  intro j
  simp only [Nat.testBit_or, offBit_test, Nat.testBit_two_pow]
  cases w.testBit j <;> cases decide (i = j) <;> rfl
theorem nd15 {n : Nat} : ((n : Int) + 15) / 16 = (((n + 15) / 16 : Nat) : Int) := by omega

/-- A new vector of the bits of a list. -/
def MkBits (H : AH) (l : List Bool) : CPost := fun v' H' => ∃ vs ws, v' = .agg #[.int .i64 l.length, vs] ∧ Nats H' vs ws ∧ BitsAre ws l ∧ Kp H H' ∧ (∀ b, blkOf vs = some b → H.size ≤ b)

theorem biSet_ok {n : Int} {i : Nat} {v : Value} {ws : List Nat} (hS : Nats H v ws) (hw : Words ws) (hi : i / 16 < ws.length)
    (hb : i ≤ 1099511627776) (hlo : ∀ b, blkOf v = some b → H.lo ≤ b) :
    ACalls Ez n_s_biSet [.agg #[.int .i64 n, v], .int .i64 i] H (fun v' H' => v' = .tuple #[] ∧ Nats H' v (setBit ws i true) ∧ KpX (blkOf v) H H') := by
  refine k_s_biSet rfl ?_
  have hw0 := hw.at (i / 16)
  have hp2 : 2 ^ (i % 16) < 2 ^ 16 := Nat.pow_lt_pow_right (by omega) (by omega)
  have hA : Kp H (H.alloc ⟨[.int .i64 n, v], 0⟩) := Kp.refl.alloc
  have hS' := hS.kp hA
  have hst : ∀ {x : Nat}, opStore 1 (elt 1 v (i / 16)) (.int .i64 x) (H.alloc ⟨[.int .i64 n, v], 0⟩) = some (stH (H.alloc ⟨[.int .i64 n, v], 0⟩) v (i / 16) (.int .i64 x)) := fun {x} => hS'.st (x := nv x) hlo hi nv_cells nv_one
  have hor : ∀ {kd : Nat} {c : Bool}, opBin kd c .or (.int .i64 (ws.getD (i / 16) default : Nat)) (.int .i64 (2 ^ (i % 16) : Nat)) = some (.int .i64 (ws.getD (i / 16) default ||| 2 ^ (i % 16) : Nat)) := fun {kd c} => nat_or ⟨by omega, by generalize 2 ^ (i % 16) = m at *; omega⟩
  simp (disch := first | omega | assumption | (simp only [size_alloc, size_put] <;> omega) | (simp only [RK, Nat.reduceAdd] <;> omega) | fail) only [R1, R, Nat.reduceBEq, Nat.reduceAdd, b_s_biSet, nd16, nm16, hS'.r, nv, nat_shl1, hor, hst]
  refine ⟨trivial, ?_, ?_⟩
  · have := hS'.set (i := i / 16) (x := ws.getD (i / 16) default ||| 2 ^ (i % 16)) hi
    rw [← orBit_eq] at this
    simp only [setBit, if_true]
    rw [← orBit_eq]
    exact this
  · have e1 := @stH_kpx (H.alloc ⟨[.int .i64 n, v], 0⟩) v (i / 16) (nv (ws.getD (i / 16) default ||| 2 ^ (i % 16)))
    exact ⟨e1.1, Nat.le_trans hA.2.1 e1.2.1, fun j hj hne => (e1.2.2 j (Nat.lt_of_lt_of_le hj hA.2.1) hne).trans (hA.2.2 j hj)⟩

theorem blank_ok {n : Nat} (hL : Wf H) (hn : n ≤ 1099511627776) : ACalls Ez n_i_blank [.int .i64 n] H (MkBits H (List.replicate n false)) := by
  refine k_i_blank rfl ?_
  have hL' : Wf (H.alloc ⟨[.int .i64 0, .slice none 0 0], 0⟩) := hL.alloc
  simp (disch := first | omega | assumption | (simp only [size_alloc, size_put] <;> omega) | (simp only [RK, Nat.reduceAdd] <;> omega) | fail) only [R1, R, Nat.reduceBEq, Nat.reduceAdd, b_i_blank, words_eq, nd15]
  refine ⟨.slice (some ⟨H.size + 1, 0, none⟩) ((n + 15) / 16) ((n + 15) / 16), List.replicate ((n + 15) / 16) 0, by rw [List.length_replicate], Sl.fresh (get_alloc_self (by rw [size_alloc])) (by simp [nv]) (by simp), .zero, Kp.refl.alloc.alloc, ?_⟩
  intro b hb; cases hb; exact Nat.le_succ _
theorem biNew_ok {n : Nat} (hL : Wf H) (hn : n ≤ 1099511627776) : ACalls Ez n_s_biNew [.int .i64 n] H (MkBits H (List.replicate n false)) := by
  refine k_s_biNew rfl ?_
  have hL' : Wf (H.alloc ⟨[.int .i64 0, .slice none 0 0], 0⟩) := hL.alloc
  simp (disch := first | omega | assumption | (simp only [size_alloc, size_put] <;> omega) | (simp only [RK, Nat.reduceAdd] <;> omega) | fail) only [R1, R, Nat.reduceBEq, Nat.reduceAdd, b_s_biNew, nd15]
  refine ⟨.slice (some ⟨H.size + 1, 0, none⟩) ((n + 15) / 16) ((n + 15) / 16), List.replicate ((n + 15) / 16) 0, by rw [List.length_replicate], Sl.fresh (get_alloc_self (by rw [size_alloc])) (by simp [nv]) (by simp), .zero, Kp.refl.alloc.alloc, ?_⟩
  intro b hb; cases hb; exact Nat.le_succ _

/-- What a function value answers. -/
def Says (H : AH) (fv : Value) (n : Nat) (f : Nat → Bool) : Prop := ∀ i, i < n → ∀ H1, Kp H H1 → AClo Ez fv [.int .i64 i] H1 (Ret (.bool (f i)) H1)

theorem range_set {n k : Nat} {f : Nat → Bool} (hk : k < n) : ((List.range n).map fun i => decide (i < k + 1) && f i) = ((List.range n).map fun i => decide (i < k) && f i).set k (f k) := by
  apply List.ext_getElem
  · simp
  · intro i h1 h2
    simp only [List.length_map, List.length_range] at h1
    simp only [List.getElem_map, List.getElem_range, List.getElem_set]
    by_cases h : k = i
    · subst h; simp
    · rw [if_neg h]
      by_cases h3 : i < k
      · rw [decide_eq_true h3, decide_eq_true (by omega)]
      · rw [decide_eq_false h3, decide_eq_false (by omega)]

theorem madeBits_ok {fv : Value} {n : Nat} {f : Nat → Bool} (hL : Wf H) (hn : n ≤ 1099511627776) (hf : Says H fv n f) : ACalls Ez n_i_madeBits [.int .i64 n, fv] H (MkBits H ((List.range n).map f)) := by
  refine k_i_madeBits rfl ?_
  simp (disch := first | omega | assumption | (simp only [size_alloc, size_put] <;> omega) | (simp only [RK, Nat.reduceAdd] <;> omega) | fail) only [R1, R, Nat.reduceBEq, Nat.reduceAdd, b_i_madeBits]
  refine (blank_ok (hL.alloc) hn).imp ?_
  rintro _ H1 ⟨vs, ws, rfl, hS, hB, hK, hfr⟩
  have hK0 : Kp H H1 := (Kp.refl.alloc).trans hK
  have hL1 : Wf H1 := hK0.wf hL
  have hone := hS.one
  have hg0 : H1.get H.size = some ⟨[.int .i64 0, .slice none 0 0], 0⟩ := hK.get (get_alloc_self rfl)
  have hb0 := get_lt hg0
  simp (disch := first | omega | assumption | (simp only [size_alloc, size_put] <;> omega) | (simp only [RK, Nat.reduceAdd, hone.1, hone.2] <;> omega) | fail) only [R1, R, Nat.reduceBEq, Nat.reduceAdd, List.length_replicate, hone.1, hone.2]
  refine AWP_for n (fun k t H' => ∃ ws', Nats H' vs ws' ∧ BitsAre ws' ((List.range n).map fun i => decide (i < k) && f i) ∧ H'.get H1.size = some ⟨[.int .i64 n, vs], 0⟩ ∧ H'.get H.size = some ⟨[.int .i64 0, .slice none 0 0], 0⟩ ∧ Kp H H')
    rfl rfl (by omega) ⟨ws, hS.kp Kp.refl.alloc, ?_, get_alloc_self rfl, by rw [get_alloc_lt hb0]; exact hg0, hK0.alloc⟩ rfl ?_ ?_
  · have : (List.range n).map (fun i => decide (i < 0) && f i) = List.replicate n false := by
      apply List.ext_getElem
      · simp
      · intro i h1 h2; simp
    rw [this]; exact hB
  · rintro k t H' hk hi hn hT ⟨ws', hS', hB', hg1, hg2, hK'⟩
    have h1 : t 1 = fv := hT 1 rfl
    have h5 : t 5 = .pointer (some ⟨H1.size, 0, none⟩) := hT 5 rfl
    simp (disch := first | omega | assumption | (simp only [size_alloc, size_put] <;> omega) | (simp only [RK, Nat.reduceAdd] <;> omega) | fail) only [R1, R, Nat.reduceBEq, Nat.reduceAdd, L_i_madeBits_0, hi, h1, h5]
    refine AClo_ret (hf k hk H' hK') ?_
    intro H2 hK2
    have hlen : ws'.length = (n + 15) / 16 := by rw [hB'.1]; simp
    have hlo : ∀ b, blkOf vs = some b → H2.lo ≤ b := by
      intro b hb
      have := hfr b hb
      have hw : H.lo ≤ H.size := hL
      rw [size_alloc] at this
      rw [hK2.lo, hK'.lo]; omega
    have hd : blkOf vs ≠ some H1.size := by
      intro he
      have := hS.lt he
      omega
    have hd0 : blkOf vs ≠ some H.size := by
      intro he
      have := hfr _ he
      rw [size_alloc] at this; omega
    simp (disch := first | omega | assumption | (simp only [size_alloc, size_put] <;> omega) | (simp only [RK, Nat.reduceAdd] <;> omega) | fail) only [R1, R, Nat.reduceBEq, Nat.reduceAdd, hi, h1, h5]
    refine (set_ok (H := H2) (by rw [(load_at (hK2.get hg1)).1]; rfl) (hS'.kp hK2) hB'.2.1 (by omega) (by omega) hlo hd).imp ?_
    rintro _ H3 ⟨rfl, hS3, hX⟩
    simp (disch := first | omega | assumption | (simp only [size_alloc, size_put] <;> omega) | (simp only [RK, Nat.reduceAdd] <;> omega) | fail) only [R1, R, Nat.reduceBEq, Nat.reduceAdd]
    refine ⟨_, hS3, ?_, ?_, ?_, ?_⟩
    · rw [range_set hk]; exact hB'.set (by simpa using hk)
    · rw [hX.2.2 _ (get_lt (hK2.get hg1)) hd]; exact hK2.get hg1
    · rw [hX.2.2 _ (get_lt (hK2.get hg2)) hd0]; exact hK2.get hg2
    · refine (hK'.trans hK2).app hX ?_
      intro b hb
      have := hfr b hb
      rw [size_alloc] at this; omega
  · rintro t H' hi hn hT ⟨ws', hS', hB', hg1, hg2, hK'⟩
    have h4 : t 4 = .pointer (some ⟨H.size, 0, none⟩) := hT 4 rfl
    have h5 : t 5 = .pointer (some ⟨H1.size, 0, none⟩) := hT 5 rfl
    have hw : H.lo ≤ H.size := hL
    have hst := store_at (H := H') (b := H.size) (o := 0) (n := 2) (x := .agg #[.int .i64 n, vs]) hg2 rfl (by rw [hK'.lo]; exact hw) (Nat.le_refl _) (by simp only [RK, hone.2])
    simp (disch := first | omega | assumption | (simp only [size_alloc, size_put] <;> omega) | (simp only [RK, Nat.reduceAdd] <;> omega) | fail) only [R1, R, Nat.reduceBEq, Nat.reduceAdd, h4, h5, (load_at hg1).2, hst]
    have hg3 : (H'.put H.size (some ⟨splice [.int .i64 0, .slice none 0 0] 0 [.int .i64 n, vs], 0⟩)).get H.size = some ⟨[.int .i64 n, vs], 0⟩ := get_put_self ⟨rfl, get_lt hg2⟩
    simp (disch := first | omega | assumption | (simp only [size_alloc, size_put] <;> omega) | (simp only [RK, Nat.reduceAdd] <;> omega) | fail) only [R1, R, Nat.reduceBEq, Nat.reduceAdd, (load_at hg3).2]
    refine ⟨vs, ws', by simp, ?_, ?_, hK'.put (Nat.le_refl _), ?_⟩
    · refine hS'.app (x := some H.size) ⟨rfl, by rw [size_put]; exact Nat.le_refl _, fun i _ hne => get_put_ne fun e => hne (by rw [e])⟩ ?_
      intro b hb he
      have := hfr b hb
      rw [size_alloc] at this
      cases he; omega
    · have : (List.range n).map (fun i => decide (i < n) && f i) = (List.range n).map f := by
        apply List.map_congr_left
        intro i hi
        rw [decide_eq_true (List.mem_range.mp hi)]; rfl
      rw [← this]; exact hB'
    · intro b hb
      have := hfr b hb
      rw [size_alloc] at this; omega
end Go.AE
set_option linter.unusedVariables false
set_option linter.unusedSimpArgs false
namespace Go.AE
variable {H : AH}

theorem biSome_ok {v : Value} {l : List Bool} (hL : Wf H) (hV : Bools H v l) (hn : l.length ≤ 1099511627776) : ACalls Ez n_s_biSome [v] H (MkBits H l) := by
  refine k_s_biSome rfl ?_
  have hV0 := hV.kp (Kp.refl.alloc (b := ⟨[.int .i64 0, .slice none 0 0], 0⟩))
  simp (disch := first | omega | assumption | (simp only [size_alloc, size_put] <;> omega) | (simp only [RK, Nat.reduceAdd] <;> omega) | fail) only [R1, R, Nat.reduceBEq, Nat.reduceAdd, b_s_biSome, hV0.r]
  refine (biNew_ok (hL.alloc) hn).imp ?_
  rintro _ H1 ⟨vs, ws, rfl, hS, hB, hK, hfr⟩
  have hK0 : Kp H H1 := (Kp.refl.alloc).trans hK
  have hL1 : Wf H1 := hK0.wf hL
  have hone := hS.one
  have hg0 : H1.get H.size = some ⟨[.int .i64 0, .slice none 0 0], 0⟩ := hK.get (get_alloc_self rfl)
  have hb0 := get_lt hg0
  simp (disch := first | omega | assumption | (simp only [size_alloc, size_put] <;> omega) | (simp only [RK, Nat.reduceAdd, hone.1, hone.2] <;> omega) | fail) only [R1, R, Nat.reduceBEq, Nat.reduceAdd, List.length_replicate, hV.r, hone.1, hone.2]
  refine AWP_for l.length (fun k t H' => ∃ ws', Nats H' vs ws' ∧ BitsAre ws' ((List.range l.length).map fun i => decide (i < k) && l.getD i default) ∧ H'.get H1.size = some ⟨[.int .i64 l.length, vs], 0⟩ ∧ H'.get H.size = some ⟨[.int .i64 0, .slice none 0 0], 0⟩ ∧ Kp H H')
    rfl rfl (by omega) ⟨ws, hS.kp Kp.refl.alloc, ?_, get_alloc_self rfl, by rw [get_alloc_lt hb0]; exact hg0, hK0.alloc⟩ rfl ?_ ?_
  · have : (List.range l.length).map (fun i => decide (i < 0) && l.getD i default) = List.replicate l.length false := by
      apply List.ext_getElem
      · simp
      · intro i h1 h2; simp
    rw [this]; exact hB
  · rintro k t H' hk hi hn hT ⟨ws', hS', hB', hg1, hg2, hK'⟩
    have h9 : t 9 = v := hT 9 rfl
    have h3 : t 3 = .pointer (some ⟨H1.size, 0, none⟩) := hT 3 rfl
    have hV' := hV.kp hK'
    simp (disch := first | omega | assumption | (simp only [size_alloc, size_put] <;> omega) | (simp only [RK, Nat.reduceAdd] <;> omega) | fail) only [R1, R, Nat.reduceBEq, Nat.reduceAdd, L_s_biSome_0, hi, h9, h3, hV'.r]
    have hlen : ws'.length = (l.length + 15) / 16 := by rw [hB'.1]; simp
    refine ACond_split (fun h => ?_) (fun h => ?_)
    · have hlo : ∀ b, blkOf vs = some b → H'.lo ≤ b := by
        intro b hb
        have := hfr b hb
        have hw : H.lo ≤ H.size := hL
        rw [size_alloc] at this
        rw [hK'.lo]; omega
      have hd : blkOf vs ≠ some H1.size := by
        intro he
        have := hS.lt he
        omega
      have hd0 : blkOf vs ≠ some H.size := by
        intro he
        have := hfr _ he
        rw [size_alloc] at this; omega
      simp (disch := first | omega | assumption | (simp only [size_alloc, size_put] <;> omega) | (simp only [RK, Nat.reduceAdd] <;> omega) | fail) only [R1, R, Nat.reduceBEq, Nat.reduceAdd, hi, h3, (load_at hg1).2]
      refine (biSet_ok (H := H') hS' hB'.2.1 (by omega) (by omega) hlo).imp ?_
      rintro _ H3 ⟨rfl, hS3, hX⟩
      simp (disch := first | omega | assumption | (simp only [size_alloc, size_put] <;> omega) | (simp only [RK, Nat.reduceAdd] <;> omega) | fail) only [R1, R, Nat.reduceBEq, Nat.reduceAdd]
      refine ⟨_, hS3, ?_, ?_, ?_, ?_⟩
      · rw [range_set hk, h]; exact hB'.set (by simpa using hk)
      · rw [hX.2.2 _ (get_lt hg1) hd]; exact hg1
      · rw [hX.2.2 _ (get_lt hg2) hd0]; exact hg2
      · refine hK'.app hX ?_
        intro b hb
        have := hfr b hb
        rw [size_alloc] at this; omega
    · simp (disch := first | omega | assumption | (simp only [size_alloc, size_put] <;> omega) | (simp only [RK, Nat.reduceAdd] <;> omega) | fail) only [R1, R, Nat.reduceBEq, Nat.reduceAdd]
      refine ⟨ws', hS', ?_, hg1, hg2, hK'⟩
      have hs : BitsAre (setBit ws' k false) ((List.range l.length).map fun i => decide (i < k + 1) && l.getD i default) := by
        rw [range_set hk, h]; exact hB'.set (by simpa using hk)
      have e : setBit ws' k false = ws' := by
        refine words_ext setBit_length (setBit_words hB'.2.1) hB'.2.1 fun j => ?_
        rw [setBit_at (by omega)]
        by_cases hj : j = k
        · subst hj
          rw [if_pos rfl, hB'.2.2]
          simp [List.getD, List.getElem?_map, List.getElem?_range hk]
        · rw [if_neg hj]
      rw [e] at hs; exact hs
  · rintro t H' hi hn hT ⟨ws', hS', hB', hg1, hg2, hK'⟩
    have h2 : t 2 = .pointer (some ⟨H.size, 0, none⟩) := hT 2 rfl
    have h3 : t 3 = .pointer (some ⟨H1.size, 0, none⟩) := hT 3 rfl
    have hw : H.lo ≤ H.size := hL
    have hst := store_at (H := H') (b := H.size) (o := 0) (n := 2) (x := .agg #[.int .i64 l.length, vs]) hg2 rfl (by rw [hK'.lo]; exact hw) (Nat.le_refl _) (by simp only [RK, hone.2])
    simp (disch := first | omega | assumption | (simp only [size_alloc, size_put] <;> omega) | (simp only [RK, Nat.reduceAdd] <;> omega) | fail) only [R1, R, Nat.reduceBEq, Nat.reduceAdd, h2, h3, (load_at hg1).2, hst]
    have hg3 : (H'.put H.size (some ⟨splice [.int .i64 0, .slice none 0 0] 0 [.int .i64 l.length, vs], 0⟩)).get H.size = some ⟨[.int .i64 l.length, vs], 0⟩ := get_put_self ⟨rfl, get_lt hg2⟩
    simp (disch := first | omega | assumption | (simp only [size_alloc, size_put] <;> omega) | (simp only [RK, Nat.reduceAdd] <;> omega) | fail) only [R1, R, Nat.reduceBEq, Nat.reduceAdd, (load_at hg3).2]
    refine ⟨vs, ws', rfl, ?_, ?_, hK'.put (Nat.le_refl _), ?_⟩
    · refine hS'.app (x := some H.size) ⟨rfl, by rw [size_put]; exact Nat.le_refl _, fun i _ hne => get_put_ne fun e => hne (by rw [e])⟩ ?_
      intro b hb he
      have := hfr b hb
      rw [size_alloc] at this
      cases he; omega
    · have : (List.range l.length).map (fun i => decide (i < l.length) && l.getD i default) = l := by
        apply List.ext_getElem
        · simp
        · intro i h1 h2
          simp only [List.getElem_map, List.getElem_range, decide_eq_true h2, Bool.true_and, getD_eq h2]
      rw [this] at hB'; exact hB'
    · intro b hb
      have := hfr b hb
      rw [size_alloc] at this; omega

/-! ### vectors alike -/

theorem Equal_ok {v u : Value} {a b : List Int} (hv : Ints H v a) (hu : Ints H u b) (hl : a.length ≤ 1099511627776) : ACalls Ez n_slices_Equal_Lint_int [v, u] H (Is (.bool (a == b)) H) := by
  refine k_slices_Equal_Lint_int rfl ?_
  simp (disch := first | omega | assumption | (simp only [size_alloc, size_put] <;> omega) | (simp only [RK, Nat.reduceAdd] <;> omega) | fail) only [R1, R, Nat.reduceBEq, Nat.reduceAdd, b_slices_Equal_Lint_int, hv.r, hu.r]
  refine ACond_split (fun h => ?_) (fun h => ?_)
  · simp only [Bool.not_eq_true', decide_eq_false_iff_not] at h
    simp only [R1, R, Nat.reduceBEq, Nat.reduceAdd]
    refine .mk ?_
    have : (a == b) = false := by
      rw [beq_eq_false_iff_ne]; rintro rfl; exact h rfl
    rw [this]
  · simp only [Bool.not_eq_false', decide_eq_true_eq] at h
    have hle : a.length = b.length := by omega
    simp (disch := first | omega | assumption | (simp only [size_alloc, size_put] <;> omega) | (simp only [RK, Nat.reduceAdd] <;> omega) | fail) only [R1, R, Nat.reduceBEq, Nat.reduceAdd, hv.r]
    refine AWP_for a.length (fun k t H' => H' = H ∧ ∀ j, j < k → a.getD j default = b.getD j default) rfl rfl (by omega) ⟨rfl, by omega⟩ rfl ?_ ?_
    · rintro k t H' hk hi hn hT ⟨rfl, hI⟩
      have h0 : t 0 = v := hT 0 rfl
      have h1 : t 1 = u := hT 1 rfl
      simp (disch := first | omega | assumption | (simp only [size_alloc, size_put] <;> omega) | (simp only [RK, Nat.reduceAdd] <;> omega) | fail) only [R1, R, Nat.reduceBEq, Nat.reduceAdd, L_slices_Equal_Lint_int_0, hi, h0, h1, hv.r, hu.r]
      refine ACond_split (fun h => ?_) (fun h => ?_) <;> simp only [R1, R, Nat.reduceBEq, Nat.reduceAdd]
      · simp only [Bool.not_eq_true', decide_eq_false_iff_not] at h
        refine .mk ?_
        have : (a == b) = false := by
          rw [beq_eq_false_iff_ne]; rintro rfl; exact h rfl
        rw [this]
      · simp only [Bool.not_eq_false', decide_eq_true_eq] at h
        exact ⟨trivial, lt_succ_all hI h⟩
    · rintro t H' hi hn hT ⟨rfl, hI⟩
      simp only [R1, R, Nat.reduceBEq, Nat.reduceAdd]
      refine .mk ?_
      have : a = b := by
        apply List.ext_getElem hle
        intro i h1 h2
        have := hI i h1
        rwa [getD_eq h1, getD_eq h2] at this
      rw [this, beq_self_eq_true]
theorem Equal_eq {v u : Value} {a b : List Int} {Q : CPost} (hv : Ints H v a) (hu : Ints H u b) (hl : a.length ≤ 1099511627776) : ACalls Ez 259 [v, u] H Q = Q (.bool (a == b)) H := (Equal_ok hv hu hl).eq
theorem l1Same_ok {v u : Value} {a b : List Int} (hv : Ints H v a) (hu : Ints H u b) (hl : a.length ≤ 1099511627776) : ACalls Ez n_s_l1Same [v, u] H (Is (.bool (a == b)) H) := by
  refine k_s_l1Same rfl ?_
  simp (disch := first | omega | assumption | (simp only [size_alloc, size_put] <;> omega) | (simp only [RK, Nat.reduceAdd] <;> omega) | fail) only [R1, R, Nat.reduceBEq, Nat.reduceAdd, b_s_l1Same, hv.r, hu.r]
  refine ACond_split (fun h => ?_) (fun h => ?_)
  · simp only [Bool.not_eq_true', decide_eq_false_iff_not] at h
    simp only [R1, R, Nat.reduceBEq, Nat.reduceAdd]
    refine .mk ?_
    have : (a == b) = false := by
      rw [beq_eq_false_iff_ne]; rintro rfl; exact h rfl
    rw [this]
  · simp only [Bool.not_eq_false', decide_eq_true_eq] at h
    have hle : a.length = b.length := by omega
    simp (disch := first | omega | assumption | (simp only [size_alloc, size_put] <;> omega) | (simp only [RK, Nat.reduceAdd] <;> omega) | fail) only [R1, R, Nat.reduceBEq, Nat.reduceAdd, hv.r]
    refine AWP_for a.length (fun k t H' => H' = H ∧ ∀ j, j < k → a.getD j default = b.getD j default) rfl rfl (by omega) ⟨rfl, by omega⟩ rfl ?_ ?_
    · rintro k t H' hk hi hn hT ⟨rfl, hI⟩
      have h0 : t 0 = v := hT 0 rfl
      have h1 : t 1 = u := hT 1 rfl
      simp (disch := first | omega | assumption | (simp only [size_alloc, size_put] <;> omega) | (simp only [RK, Nat.reduceAdd] <;> omega) | fail) only [R1, R, Nat.reduceBEq, Nat.reduceAdd, L_s_l1Same_0, hi, h0, h1, hv.r, hu.r]
      refine ACond_split (fun h => ?_) (fun h => ?_) <;> simp only [R1, R, Nat.reduceBEq, Nat.reduceAdd]
      · simp only [Bool.not_eq_true', decide_eq_false_iff_not] at h
        refine .mk ?_
        have : (a == b) = false := by
          rw [beq_eq_false_iff_ne]; rintro rfl; exact h rfl
        rw [this]
      · simp only [Bool.not_eq_false', decide_eq_true_eq] at h
        exact ⟨trivial, lt_succ_all hI h⟩
    · rintro t H' hi hn hT ⟨rfl, hI⟩
      simp only [R1, R, Nat.reduceBEq, Nat.reduceAdd]
      refine .mk ?_
      have : a = b := by
        apply List.ext_getElem hle
        intro i h1 h2
        have := hI i h1
        rwa [getD_eq h1, getD_eq h2] at this
      rw [this, beq_self_eq_true]
theorem l1Same_eq {v u : Value} {a b : List Int} {Q : CPost} (hv : Ints H v a) (hu : Ints H u b) (hl : a.length ≤ 1099511627776) : ACalls Ez 282 [v, u] H Q = Q (.bool (a == b)) H := (l1Same_ok hv hu hl).eq

theorem sameBits_ok {v u : Value} {n m : Int} {a b : List Int} (hv : Ints H v a) (hu : Ints H u b) (hl : a.length ≤ 1099511627776) :
    ACalls Ez n_i_sameBits [.agg #[.int .i64 n, v], .agg #[.int .i64 m, u]] H (Ret (.bool (decide (n = m) && a == b)) H) := by
  refine k_i_sameBits rfl ?_
  have hA : Kp H ((H.alloc ⟨[.int .i64 n, v], 0⟩).alloc ⟨[.int .i64 m, u], 0⟩) := Kp.refl.alloc.alloc
  simp (disch := first | omega | assumption | (simp only [size_alloc, size_put] <;> omega) | (simp only [RK, Nat.reduceAdd] <;> omega) | fail) only [R1, R, Nat.reduceBEq, Nat.reduceAdd, b_i_sameBits]
  cases h : decide (n = m) with
  | false => simp only [R1, R, Nat.reduceBEq, Nat.reduceAdd]; exact ⟨rfl, hA⟩
  | true =>
    simp (disch := first | omega | assumption | (simp only [size_alloc, size_put] <;> omega) | (simp only [RK, Nat.reduceAdd] <;> omega) | fail) only [R1, R, Nat.reduceBEq, Nat.reduceAdd, Equal_eq (hv.kp hA) (hu.kp hA) hl]
    exact ⟨rfl, hA⟩
theorem biSame_ok {v u : Value} {n m : Int} {a b : List Int} (hv : Ints H v a) (hu : Ints H u b) (hl : a.length ≤ 1099511627776) :
    ACalls Ez n_s_biSame [.agg #[.int .i64 n, v], .agg #[.int .i64 m, u]] H (Ret (.bool (decide (n = m) && a == b)) H) := by
  refine k_s_biSame rfl ?_
  have hA : Kp H ((H.alloc ⟨[.int .i64 n, v], 0⟩).alloc ⟨[.int .i64 m, u], 0⟩) := Kp.refl.alloc.alloc
  simp (disch := first | omega | assumption | (simp only [size_alloc, size_put] <;> omega) | (simp only [RK, Nat.reduceAdd] <;> omega) | fail) only [R1, R, Nat.reduceBEq, Nat.reduceAdd, b_s_biSame]
  cases h : decide (n = m) with
  | false => simp only [R1, R, Nat.reduceBEq, Nat.reduceAdd]; exact ⟨rfl, hA⟩
  | true =>
    simp (disch := first | omega | assumption | (simp only [size_alloc, size_put] <;> omega) | (simp only [RK, Nat.reduceAdd] <;> omega) | fail) only [R1, R, Nat.reduceBEq, Nat.reduceAdd, l1Same_eq (hv.kp hA) (hu.kp hA) hl]
    exact ⟨rfl, hA⟩
end Go.AE
set_option linter.unusedVariables false
set_option linter.unusedSimpArgs false
namespace Go.AE
variable {H : AH}

theorem areKeys_len {l : List Str} (h : areKeys l = true) : l.length ≤ 40 ∧ ∀ s ∈ l, s.length ≤ 12 := by
  simp only [areKeys, Bool.and_eq_true, decide_eq_true_eq] at h
  refine ⟨by omega, fun s hs => ?_⟩
  obtain ⟨i, hi, rfl⟩ := List.getElem_of_mem hs
  have := List.all_eq_true.mp h.1 i (List.mem_range.mpr hi)
  simp only [keyAt, isKey, Bool.and_eq_true, decide_eq_true_eq, getD_eq hi] at this
  omega
theorem areKeys_allS {l : List Str} (h : areKeys l = true) : AllS l := by
  have := areKeys_len h
  exact ⟨by omega, fun s hs => by have := this.2 s hs; omega⟩

def prefixes (s : Str) (n : Nat) : List Str := (List.range n).map fun i => s.take (i + 1)
def rawNodes (keys : List Str) : List Str := [] :: keys.flatMap fun s => prefixes s s.length
def nodesOf (keys : List Str) : List Str := dedup ((rawNodes keys).mergeSort leL)

theorem prefixes_succ {s : Str} {n : Nat} : prefixes s (n + 1) = prefixes s n ++ [s.take (n + 1)] := by simp [prefixes, List.range_succ]
theorem flat_take {keys : List Str} {k : Nat} {g : Str → List Str} (hk : k < keys.length) : (keys.take (k + 1)).flatMap g = (keys.take k).flatMap g ++ g (keys.getD k default) := by
  rw [take_succ_getD hk, List.flatMap_append]; simp
theorem flat_len {keys : List Str} {k : Nat} (h : ∀ s ∈ keys, s.length ≤ 12) (hk : k ≤ keys.length) : ((keys.take k).flatMap fun s => prefixes s s.length).length ≤ 12 * k := by
  induction k with
  | zero => simp
  | succ k ih =>
    have hk' : k < keys.length := by omega
    rw [flat_take hk', List.length_append]
    have h1 := ih (by omega)
    have h2 : (keys.getD k default).length ≤ 12 := by rw [getD_eq hk']; exact h _ (List.getElem_mem hk')
    simp only [prefixes, List.length_map, List.length_range] at *
    omega

theorem nodesFor_ok {v : Value} {keys : List Str} (hL : Wf H) (hS : Strs H v keys) (hk : areKeys keys = true) :
    ACalls Ez n_i_nodesFor [v] H (fun v' H' => Own sv H.size H' v' (nodesOf keys) ∧ Kp H H') := by
  refine k_i_nodesFor rfl ?_
  have hlen := areKeys_len hk
  have hwf : H.lo ≤ H.size := hL
  simp (disch := first | omega | assumption | (simp only [size_alloc, size_put] <;> omega) | (simp only [RK, Nat.reduceAdd] <;> omega) | fail) only [R1, R, Nat.reduceBEq, Nat.reduceAdd, b_i_nodesFor, hS.r]
  refine AWP_for keys.length (fun k t H' => ∃ w, t 3 = w ∧ Own sv H.size H' w ([] :: (keys.take k).flatMap fun s => prefixes s s.length) ∧ Kp H H')
    rfl rfl (by omega) ⟨_, rfl, .one1 (Nat.le_refl _), Kp.refl.alloc⟩ rfl ?_ ?_
  · rintro k t H1 hlt hi hn hT ⟨w, h3, hO, hK⟩
    have h8 : t 8 = v := hT 8 rfl
    have hS' := hS.kp hK
    have hsl : (keys.getD k default).length ≤ 12 := by rw [getD_eq hlt]; exact hlen.2 _ (List.getElem_mem hlt)
    have hfl := flat_len hlen.2 (Nat.le_of_lt hlt)
    simp (disch := first | omega | assumption | (simp only [size_alloc, size_put] <;> omega) | (simp only [RK, Nat.reduceAdd] <;> omega) | fail) only [R1, R, Nat.reduceBEq, Nat.reduceAdd, L_i_nodesFor_1, hi, h8, hS'.r]
    refine AWP_for (keys.getD k default).length (fun j t H' => ∃ w, t 3 = w ∧ t 10 = .int .i64 k ∧ Own sv H.size H' w ([] :: ((keys.take k).flatMap fun s => prefixes s s.length) ++ prefixes (keys.getD k default) j) ∧ Kp H H')
      rfl rfl (by omega) ⟨_, h3, hi, by simpa [prefixes] using hO, hK⟩ rfl ?_ ?_
    · rintro j t' H2 hj hi' hn' hT' ⟨w', h3', h10, hO', hK'⟩
      have h5 : t' 5 = sv (keys.getD k default) := hT' 5 rfl
      have hb : ([] :: ((keys.take k).flatMap fun s => prefixes s s.length) ++ prefixes (keys.getD k default) j).length + 1 ≤ 1099511627776 ∧ 16 ≤ 64 := by
        simp only [List.cons_append, List.length_cons, List.length_append, prefixes, List.length_map, List.length_range] at *
        omega
      obtain ⟨v', H3, e, hO3, hX, hbk⟩ := append_1 (bytes := 16) (a := (keys.getD k default).take (j + 1)) hO' (by rw [hK'.lo]; exact hwf) (fun _ => sv_one) hb hK'.size
      have ej : ((j : Int) + 1).toNat = j + 1 := by omega
      simp (disch := first | omega | assumption | (simp only [size_alloc, size_put] <;> omega) | (simp only [RK, Nat.reduceAdd] <;> omega) | fail) only [R1, R, Nat.reduceBEq, Nat.reduceAdd, L_i_nodesFor_0, hi', h5, h3', ej, e]
      refine ⟨_, rfl, h10, ?_, hK'.app hX hO'.2⟩
      rw [prefixes_succ, ← List.append_assoc]; exact hO3
    · rintro t' H2 hi' hn' hT' ⟨w', h3', h10, hO', hK'⟩
      simp (disch := first | omega | assumption | (simp only [size_alloc, size_put] <;> omega) | (simp only [RK, Nat.reduceAdd] <;> omega) | fail) only [R1, R, Nat.reduceBEq, Nat.reduceAdd, h3']
      refine ⟨_, rfl, ?_, hK'⟩
      rw [flat_take hlt]; exact hO'
  · rintro t H1 hi hn hT ⟨w, h3, hO, hK⟩
    rw [List.take_length] at hO
    obtain ⟨H2, e, hO2, hX⟩ := extTurn_ok (g := fun l => l.mergeSort leL) hO (by rw [hK.lo]; exact hwf) (List.length_mergeSort _) (by simp) (by have := flat_len hlen.2 (Nat.le_refl _); rw [List.take_length] at this; simp only [List.length_cons]; omega)
    simp (disch := first | omega | assumption | (simp only [size_alloc, size_put] <;> omega) | (simp only [RK, Nat.reduceAdd] <;> omega) | fail) only [R1, R, Nat.reduceBEq, Nat.reduceAdd, h3]
    refine ACalls_ext (v := .tuple #[]) (H' := H2) rfl ?_ ?_
    · show (if n_i_nodesFor_1 = n_i_nodesFor_1 ∧ (#[] : Array Value).size = 0 ∧ (#[] : Array Value).size = 0 then (match extTurn (fun l => l.mergeSort leL) w H1 with | some H' => some (Value.tuple #[], H') | none => none) else none) = _
      rw [if_pos ⟨rfl, rfl, rfl⟩, e]
    · obtain ⟨v3, H3, e3, hO3, hX3, hb3⟩ := extCompact_ok hO2 (by rw [hX.1, hK.lo]; exact hwf) (by rw [List.length_mergeSort]; have := flat_len hlen.2 (Nat.le_refl _); rw [List.take_length] at this; simp only [List.length_cons]; omega)
      simp (disch := first | omega | assumption | (simp only [size_alloc, size_put] <;> omega) | (simp only [RK, Nat.reduceAdd] <;> omega) | fail) only [R1, R, Nat.reduceBEq, Nat.reduceAdd, h3]
      refine ACalls_ext (v := v3) (H' := H3) rfl e3 ?_
      simp (disch := first | omega | assumption | (simp only [size_alloc, size_put] <;> omega) | (simp only [RK, Nat.reduceAdd] <;> omega) | fail) only [R1, R, Nat.reduceBEq, Nat.reduceAdd]
      exact ⟨hO3, (hK.app hX hO.2).app hX3 hO2.2⟩

def isChild (s c : Str) : Bool := decide ((c.length : Int) = s.length + 1) && begins c s
def children (nodes : List Str) (s : Str) : Nat := (nodes.filter (isChild s)).length

theorem childrenOf_eq {v : Value} {nodes : List Str} {s : Str} {Q : CPost} (hS : Strs H v nodes) (hl : AllS nodes) (hs : s.length ≤ 1099511627776) : ACalls Ez 256 [v, sv s] H Q = Q (.int .i64 (children nodes s)) H := by
  refine ACalls.eq (k_i_childrenOf rfl ?_)
  have hlen := hl.1
  simp (disch := first | omega | assumption | (simp only [size_alloc, size_put] <;> omega) | (simp only [RK, Nat.reduceAdd] <;> omega) | fail) only [R1, R, Nat.reduceBEq, Nat.reduceAdd, b_i_childrenOf, hS.r]
  refine AWP_for nodes.length (fun k t H' => H' = H ∧ t 5 = .int .i64 ((nodes.take k).filter (isChild s)).length) rfl rfl (by omega) ⟨rfl, rfl⟩ rfl ?_ ?_
  · rintro k t H' hk hi hn hT ⟨rfl, h5⟩
    have h8 : t 8 = v := hT 8 rfl
    have h1 : t 1 = sv s := hT 1 rfl
    have hc := hl.at k
    have hf : ((nodes.take k).filter (isChild s)).length ≤ k := Nat.le_trans (List.length_filter_le _ _) (by simp; omega)
    simp (disch := first | omega | assumption | (simp only [size_alloc, size_put] <;> omega) | (simp only [RK, Nat.reduceAdd] <;> omega) | fail) only [R1, R, Nat.reduceBEq, Nat.reduceAdd, L_i_childrenOf_0, hi, h8, h1, h5, hS.r]
    have hstep : ((nodes.take (k + 1)).filter (isChild s)).length = ((nodes.take k).filter (isChild s)).length + (if isChild s (nodes.getD k default) = true then 1 else 0) := by
      rw [take_succ_getD hk, List.filter_append, List.length_append]
      congr 1
      simp only [List.filter_cons, List.filter_nil]
      split <;> rfl
    refine AGd_split (fun h => ?_) (fun h => ?_)
    · simp (disch := first | omega | assumption | (simp only [size_alloc, size_put] <;> omega) | (simp only [RK, Nat.reduceAdd] <;> omega) | fail) only [R1, R, Nat.reduceBEq, Nat.reduceAdd, h, h1, HasPrefix_eq]
      refine ACond_split (fun hb => ?_) (fun hb => ?_)
      · simp (disch := first | omega | assumption | (simp only [size_alloc, size_put] <;> omega) | (simp only [RK, Nat.reduceAdd] <;> omega) | fail) only [R1, R, Nat.reduceBEq, Nat.reduceAdd, h5]
        refine ⟨trivial, ?_⟩
        rw [hstep, isChild, h, hb]; rfl
      · simp (disch := first | omega | assumption | (simp only [size_alloc, size_put] <;> omega) | (simp only [RK, Nat.reduceAdd] <;> omega) | fail) only [R1, R, Nat.reduceBEq, Nat.reduceAdd, h5]
        refine ⟨trivial, ?_⟩
        rw [hstep, isChild, h, hb]; rfl
    · simp (disch := first | omega | assumption | (simp only [size_alloc, size_put] <;> omega) | (simp only [RK, Nat.reduceAdd] <;> omega) | fail) only [R1, R, Nat.reduceBEq, Nat.reduceAdd, h5, h]
      refine ⟨trivial, ?_⟩
      rw [hstep, isChild, h]; rfl
  · rintro t H' hi hn hT ⟨rfl, h5⟩
    rw [List.take_length] at h5
    simp (disch := first | omega | assumption | (simp only [size_alloc, size_put] <;> omega) | (simp only [RK, Nat.reduceAdd] <;> omega) | fail) only [R1, R, Nat.reduceBEq, Nat.reduceAdd, h5]
    exact .mk rfl
end Go.AE
set_option linter.unusedVariables false
set_option linter.unusedSimpArgs false
namespace Go.AE
variable {H : AH}

theorem wrapu {n : Int} (h : 0 ≤ n ∧ n < 18446744073709551616) : IntKind.u64.wrap n = n := by
  have : IntKind.u64.wrap n = n % 18446744073709551616 := by simp [IntKind.wrap, IntKind.bits, IntKind.signed, BitVec.toNat_ofInt]
  rw [this]; omega
theorem u_and {kd : Nat} {c : Bool} {n : Nat} (h : n < 4294967296) : opBin kd c .and (.int .u64 n) (.int .u64 4294967295) = some (.int .u64 n) := by
  have e : opBin kd c .and (.int .u64 (n : Int)) (.int .u64 4294967295) = some (.int .u64 (IntKind.u64.wrap ((BitVec.ofInt 64 (n : Int) &&& BitVec.ofInt 64 4294967295 : BitVec 64).toNat))) := rfl
  have e2 : BitVec.ofInt 64 (4294967295 : Int) = BitVec.ofNat 64 4294967295 := rfl
  have e3 : n &&& 4294967295 = n := by
    rw [show 4294967295 = 2 ^ 32 - 1 by decide, Nat.and_two_pow_sub_one_eq_mod]; exact Nat.mod_eq_of_lt h
  rw [e, bv64 (by omega), e2, BitVec.toNat_and, BitVec.toNat_ofNat, BitVec.toNat_ofNat, Nat.mod_eq_of_lt (show n < 2 ^ 64 by omega), Nat.mod_eq_of_lt (show 4294967295 < 2 ^ 64 by decide), e3, wrapu (by omega)]
theorem u_shr {kd : Nat} {c : Bool} {n : Nat} (h : n < 4294967296) : opBin kd c .shr (.int .u64 n) (.int .u64 32) = some (.int .u64 0) := by
  rw [bin_shr (by decide)]
  have e : (2 : Int) ^ (min (32 : Int).toNat IntKind.u64.bits) = 4294967296 := by decide
  rw [e, Int.fdiv_eq_ediv_of_nonneg _ (by decide), Int.ediv_eq_zero_of_lt (by omega) (by omega)]

theorem Mul64_eq {n : Nat} {Q : CPost} (h : n < 4294967296) : ACalls Ez 315 [.int .u64 1, .int .u64 n] H Q = Q (.tuple #[.int .u64 0, .int .u64 n]) H := by
  refine ACalls.eq (k_math_bits_Mul64 rfl ?_)
  have a1 : ∀ {kd c}, opBin kd c .and (.int .u64 1) (.int .u64 4294967295) = some (.int .u64 1) := fun {kd c} => u_and (n := 1) (by decide)
  have s1 : ∀ {kd c}, opBin kd c .shr (.int .u64 1) (.int .u64 32) = some (.int .u64 0) := fun {kd c} => u_shr (n := 1) (by decide)
  have a0 : ∀ {kd c}, opBin kd c .and (.int .u64 0) (.int .u64 4294967295) = some (.int .u64 0) := fun {kd c} => u_and (n := 0) (by decide)
  have s0 : ∀ {kd c}, opBin kd c .shr (.int .u64 0) (.int .u64 32) = some (.int .u64 0) := fun {kd c} => u_shr (n := 0) (by decide)
  simp (disch := first | omega | assumption | (simp only [size_alloc, size_put] <;> omega) | (simp only [RK, Nat.reduceAdd] <;> omega) | fail) only [R1, R, Nat.reduceBEq, Nat.reduceAdd, b_math_bits_Mul64, a1, s1, a0, s0, u_and h, u_shr h, wrapu, Int.one_mul, Int.zero_mul, Int.mul_zero, Int.zero_add, Int.add_zero]
  exact .mk rfl
theorem Mul_eq {n : Nat} {Q : CPost} (h : n < 4294967296) : ACalls Ez 291 [.int .u64 1, .int .u64 n] H Q = Q (.tuple #[.int .u64 0, .int .u64 n]) H := by
  refine ACalls.eq (k_math_bits_Mul rfl ?_)
  simp (disch := first | omega | assumption | (simp only [size_alloc, size_put] <;> omega) | (simp only [RK, Nat.reduceAdd] <;> omega) | fail) only [R1, R, Nat.reduceBEq, Nat.reduceAdd, b_math_bits_Mul, Mul64_eq h]
  exact .mk rfl

theorem slc_lo {H : AH} {b m n : Nat} {B : Blk} (hg : H.get b = some B) (he : B.es = 1) (hm : m ≤ n) (hn : 0 < n) : opSliceSl 1 (.slice (some ⟨b, 0, none⟩) n n) (some (.int .i64 m)) none H = some (.slice (some ⟨b, m, none⟩) (n - m) (n - m)) := by
  simp only [opSliceSl, bound, hg, he, Int.toNat_natCast, Nat.mul_one, Nat.zero_add, if_true]
  rw [if_pos ⟨by omega, by omega, by omega⟩, if_neg (by omega)]
theorem slc_hi {H : AH} {b m n : Nat} {B : Blk} (hg : H.get b = some B) (he : B.es = 1) (hm : m ≤ n) (hn : 0 < n) : opSliceSl 1 (.slice (some ⟨b, 0, none⟩) n n) none (some (.int .i64 m)) H = some (.slice (some ⟨b, 0, none⟩) m n) := by
  simp only [opSliceSl, bound, hg, he, Int.toNat_natCast, Nat.mul_one, Nat.zero_add, if_true]
  rw [if_pos ⟨by omega, by omega, by omega⟩, if_neg (by omega)]
  simp

/-- m bits that are on, then bits that are off, n in all -/
def onoff (n m : Nat) : List Value := List.replicate m (.bool true) ++ List.replicate (n - m) (.bool false)
theorem onoff_len {n m : Nat} (h : m ≤ n) : (onoff n m).length = n := by simp [onoff]; omega
theorem onoff_splice {n m q : Nat} (h : m + q ≤ n) : splice (onoff n m) m (List.replicate q (.bool true)) = onoff n (m + q) := by
  unfold splice onoff
  rw [List.take_left' (by simp), List.length_replicate, List.drop_append, List.drop_eq_nil_of_le (by simp), List.length_replicate]
  simp only [List.nil_append, List.drop_replicate]
  rw [List.replicate_append_replicate]
  congr 2; omega
theorem copy_on {H : AH} {b n m : Nat} (hg : H.get b = some ⟨onoff n m, 1⟩) (hm : m < n) (hlo : H.lo ≤ b) :
    opCopy 1 (.slice (some ⟨b, m, none⟩) (n - m) (n - m)) (.slice (some ⟨b, 0, none⟩) m n) H = some (.int .i64 (min m (n - m) : Nat), H.put b (some ⟨onoff n (m + min m (n - m)), 1⟩)) := by
  have hl := onoff_len (Nat.le_of_lt hm)
  have hq : min m (n - m) ≤ m := Nat.min_le_left _ _
  have hq2 : min m (n - m) ≤ n - m := Nat.min_le_right _ _
  have e1 : srcCells 1 (min m (n - m)) (.slice (some ⟨b, 0, none⟩) m n) H = some (List.replicate (min m (n - m)) (.bool true)) := by
    simp only [srcCells, AH.readN, hg, Nat.mul_one, Nat.zero_add]
    rw [if_pos (by rw [hl]; omega), List.drop_zero]
    congr 1
    unfold onoff
    rw [List.take_append_of_le_length (by simp [hq]), List.take_replicate, Nat.min_eq_left hq]
  simp only [opCopy, srcLen, e1, AH.write, hg]
  rw [if_pos ⟨hlo, by rw [hl, List.length_replicate]; omega, by simp [bool_one]⟩, onoff_splice (by omega)]

theorem Repeat_ok {v : Value} {n : Nat} (hL : Wf H) (hS : Bools H v [true]) (hn : n < 4294967296) :
    ACalls Ez n_slices_Repeat_Lbool_bool [v, .int .i64 n] H (fun v' H' => Own Value.bool H.size H' v' (List.replicate n true) ∧ Kp H H') := by
  refine k_slices_Repeat_Lbool_bool rfl ?_
  have hl1 : opLen false v = some (.int .i64 1) := hS.len
  have hwf : H.lo ≤ H.size := hL
  have d0 : decide ((n : Int) < 0) = false := decide_eq_false (by omega)
  have d1 : decide (9223372036854775807 < (n : Int)) = false := decide_eq_false (by omega)
  have d2 : decide ((0 : Int) < 0) = false := rfl
  have hA : Kp H (H.alloc ⟨List.replicate n (.bool false), 1⟩) := Kp.refl.alloc
  have hS' := hS.kp hA
  have hc : ∃ m, m = min 1 n ∧ opCopy 1 (.slice (some ⟨H.size, 0, none⟩) n n) v (H.alloc ⟨List.replicate n (.bool false), 1⟩) = some (.int .i64 m, (H.alloc ⟨onoff n m, 1⟩)) := by
    refine ⟨_, rfl, ?_⟩
    have e1 : srcCells 1 (min 1 n) v (H.alloc ⟨List.replicate n (.bool false), 1⟩) = some (List.replicate (min 1 n) (.bool true)) := by
      rw [SlC.cells (m := min 1 n) hS' (Nat.min_le_left 1 n)]
      congr 1
      rcases Nat.eq_zero_or_pos n with rfl | hp
      · rfl
      · rw [Nat.min_eq_left hp]; rfl
    simp only [opCopy, SlC.src hS', List.length_cons, List.length_nil, Nat.zero_add, e1, AH.write, get_alloc_self]
    have e0 : List.replicate n (Value.bool false) = onoff n 0 := by simp [onoff]
    rw [if_pos ⟨by rw [lo_alloc]; exact hwf, by simp; omega, by simp [bool_one]⟩, e0, onoff_splice (by omega), put_alloc_self, Nat.zero_add]
  obtain ⟨m, hm, hc⟩ := hc
  simp (disch := first | omega | assumption | (simp only [size_alloc, size_put] <;> omega) | (simp only [RK, Nat.reduceAdd] <;> omega) | fail) only [R1, R, Nat.reduceBEq, Nat.reduceAdd, b_slices_Repeat_Lbool_bool, hl1, d0, wrapu, Mul_eq, d1, d2, hc]
  refine AWP_loopS (fun r t H' => ∃ m, r = n - m ∧ (m = min 1 n ∨ 1 ≤ m) ∧ m ≤ n ∧ t 8 = .int .i64 m ∧ H'.get H.size = some ⟨onoff n m, 1⟩ ∧ Kp H H') (n - m) ⟨m, rfl, .inl hm, by omega, rfl, get_alloc_self rfl, Kp.refl.alloc⟩ ?_
  rintro r t H' hT ⟨k, rfl, hk1, hk2, h8, hg, hK⟩
  have h7 : t 7 = .slice (some ⟨H.size, 0, none⟩) n n := hT 7 rfl
  have hln : opLen false (.slice (some ⟨H.size, 0, none⟩) n n) = some (.int .i64 n) := rfl
  simp (disch := first | omega | assumption | (simp only [size_alloc, size_put] <;> omega) | (simp only [RK, Nat.reduceAdd] <;> omega) | fail) only [R1, R, Nat.reduceBEq, Nat.reduceAdd, L_slices_Repeat_Lbool_bool_0, h7, h8, hln]
  refine ACond_split (fun h => ?_) (fun h => ?_)
  · simp only [decide_eq_true_eq] at h
    have hcp := copy_on hg (by omega) (by rw [hK.lo]; exact hwf)
    simp (disch := first | omega | assumption | (simp only [size_alloc, size_put] <;> omega) | (simp only [RK, Nat.reduceAdd] <;> omega) | fail) only [R1, R, Nat.reduceBEq, Nat.reduceAdd, h7, h8, slc_lo hg, slc_hi hg, hcp]
    refine ⟨n - (k + min k (n - k)), by omega, k + min k (n - k), rfl, by omega, by omega, by simp, get_put_self ⟨rfl, get_lt hg⟩, hK.put (Nat.le_refl _)⟩
  · simp only [decide_eq_false_iff_not] at h
    have hkn : k = n := by omega
    subst hkn
    simp (disch := first | omega | assumption | (simp only [size_alloc, size_put] <;> omega) | (simp only [RK, Nat.reduceAdd] <;> omega) | fail) only [R1, R, Nat.reduceBEq, Nat.reduceAdd, h7]
    refine ⟨⟨Sl.fresh hg (by simp [onoff]) (by simp), fun b hb => by cases hb; exact Nat.le_refl _⟩, hK⟩
end Go.AE
set_option linter.unusedVariables false
set_option linter.unusedSimpArgs false
namespace Go.AE
variable {H : AH}

def lvlStep (n : Nat) (out : List Str) (s : Str) : List Str :=
  if (decide ((n : Int) ≤ s.length) && !decide (s.take n = out.getD (out.length - 1) default)) = true then out ++ [s.take n] else out
def lvl (n : Nat) (keys out : List Str) : List Str := keys.foldl (lvlStep n) out
def sNodes (keys : List Str) (k : Nat) : List Str := (List.range k).foldl (fun out i => lvl (i + 1) keys out) [[]]

theorem sNodes_succ {keys : List Str} {k : Nat} : sNodes keys (k + 1) = lvl (k + 1) keys (sNodes keys k) := by simp [sNodes, List.range_succ]
theorem lvl_len {n : Nat} {keys out : List Str} : out.length ≤ (lvl n keys out).length ∧ (lvl n keys out).length ≤ out.length + keys.length := by
  induction keys generalizing out with
  | nil => simp [lvl]
  | cons s r ih =>
    have h := ih (out := lvlStep n out s)
    have h2 : out.length ≤ (lvlStep n out s).length ∧ (lvlStep n out s).length ≤ out.length + 1 := by
      unfold lvlStep; split <;> simp
    simp only [lvl, List.foldl_cons, List.length_cons] at *
    omega
theorem sNodes_len {keys : List Str} {k : Nat} : 1 ≤ (sNodes keys k).length ∧ (sNodes keys k).length ≤ 1 + k * keys.length := by
  induction k with
  | zero => simp [sNodes]
  | succ k ih =>
    rw [sNodes_succ]
    have := @lvl_len (k + 1) keys (sNodes keys k)
    rw [Nat.succ_mul]; omega
theorem lvl_take {n k : Nat} {keys out : List Str} (hk : k < keys.length) : lvl n (keys.take (k + 1)) out = lvlStep n (lvl n (keys.take k) out) (keys.getD k default) := by
  rw [take_succ_getD hk, lvl, List.foldl_append]; rfl

theorem trNodes_ok {v : Value} {keys : List Str} (hL : Wf H) (hS : Strs H v keys) (hk : areKeys keys = true) :
    ACalls Ez n_s_trNodes [v] H (fun v' H' => Own sv H.size H' v' (sNodes keys 12) ∧ Kp H H') := by
  refine k_s_trNodes rfl ?_
  have hlen := areKeys_len hk
  have hwf : H.lo ≤ H.size := hL
  simp (disch := first | omega | assumption | (simp only [size_alloc, size_put] <;> omega) | (simp only [RK, Nat.reduceAdd] <;> omega) | fail) only [R1, R, Nat.reduceBEq, Nat.reduceAdd, b_s_trNodes]
  refine AWP_upS (fun k t H' => k ≤ 12 ∧ t 4 = .int .i64 (k + 1) ∧ ∃ w, t 3 = w ∧ Own sv H.size H' w (sNodes keys k) ∧ Kp H H') 12 ⟨by omega, rfl, _, rfl, .one1 (Nat.le_refl _), Kp.refl.alloc⟩ ?_
  rintro k t H1 hk12 hT ⟨_, h4, w, h3, hO, hK⟩
  have h0 : t 0 = v := hT 0 rfl
  simp (disch := first | omega | assumption | (simp only [size_alloc, size_put] <;> omega) | (simp only [RK, Nat.reduceAdd] <;> omega) | fail) only [R1, R, Nat.reduceBEq, Nat.reduceAdd, L_s_trNodes_1, h4]
  refine ACond_split (fun h => ?_) (fun h => ?_)
  · simp only [decide_eq_true_eq] at h
    have hkk : k < 12 := by omega
    have hS1 := hS.kp hK
    have hb := @sNodes_len keys k
    have hmul : k * keys.length ≤ 12 * 40 := Nat.mul_le_mul (by omega) hlen.1
    simp (disch := first | omega | assumption | (simp only [size_alloc, size_put] <;> omega) | (simp only [RK, Nat.reduceAdd] <;> omega) | fail) only [R1, R, Nat.reduceBEq, Nat.reduceAdd, h0, hS1.r]
    refine AWP_for keys.length (fun j t H' => t 4 = .int .i64 (k + 1) ∧ ∃ w, t 3 = w ∧ Own sv H.size H' w (lvl (k + 1) (keys.take j) (sNodes keys k)) ∧ Kp H H')
      rfl rfl (by omega) ⟨h4, _, h3, by simpa [lvl] using hO, hK⟩ rfl ?_ ?_
    · rintro j t' H2 hj hi' hn' hT' ⟨h4', w', h3', hO', hK'⟩
      have h12 : t' 12 = v := hT' 12 rfl
      have hS2 := hS.kp hK'
      have hsl : (keys.getD j default).length ≤ 12 := by rw [getD_eq hj]; exact hlen.2 _ (List.getElem_mem hj)
      have hll := @lvl_len (k + 1) (keys.take j) (sNodes keys k)
      have htl : (keys.take j).length ≤ 40 := by simp; omega
      have ek : ((k : Int) + 1).toNat = k + 1 := by omega
      have e1 : ((lvl (k + 1) (keys.take j) (sNodes keys k)).length : Int) - 1 = (((lvl (k + 1) (keys.take j) (sNodes keys k)).length - 1 : Nat) : Int) := by omega
      simp (disch := first | omega | assumption | (simp only [size_alloc, size_put] <;> omega) | (simp only [RK, Nat.reduceAdd] <;> omega) | fail) only [R1, R, Nat.reduceBEq, Nat.reduceAdd, L_s_trNodes_0, hi', h12, h4', h3', hS2.r]
      have hcast : ((k + 1 : Nat) : Int) = (k : Int) + 1 := by omega
      have happ : ∀ hc : (decide (((k + 1 : Nat) : Int) ≤ (keys.getD j default).length) && !decide ((keys.getD j default).take (k + 1) = (lvl (k + 1) (keys.take j) (sNodes keys k)).getD ((lvl (k + 1) (keys.take j) (sNodes keys k)).length - 1) default)) = true,
          lvl (k + 1) (keys.take (j + 1)) (sNodes keys k) = lvl (k + 1) (keys.take j) (sNodes keys k) ++ [(keys.getD j default).take (k + 1)] := by
        intro hc
        rw [lvl_take hj, lvlStep, if_pos hc]
      have hskip : ∀ hc : (decide (((k + 1 : Nat) : Int) ≤ (keys.getD j default).length) && !decide ((keys.getD j default).take (k + 1) = (lvl (k + 1) (keys.take j) (sNodes keys k)).getD ((lvl (k + 1) (keys.take j) (sNodes keys k)).length - 1) default)) = false,
          lvl (k + 1) (keys.take (j + 1)) (sNodes keys k) = lvl (k + 1) (keys.take j) (sNodes keys k) := by
        intro hc
        rw [lvl_take hj, lvlStep, hc]; rfl
      refine AGd_split (fun h1 => ?_) (fun h1 => ?_)
      · have h1' := h1
        simp only [decide_eq_true_eq] at h1'
        simp (disch := first | omega | assumption | (simp only [size_alloc, size_put] <;> omega) | (simp only [RK, Nat.reduceAdd] <;> omega) | fail) only [R1, R, Nat.reduceBEq, Nat.reduceAdd, h1, h4', h3', ek, hO'.1.r, e1]
        refine ACond_split (fun h2 => ?_) (fun h2 => ?_)
        · obtain ⟨v', H3, e, hO3, hX, hbk⟩ := append_1 (bytes := 16) (a := (keys.getD j default).take (k + 1)) hO' (by rw [hK'.lo]; exact hwf) (fun _ => sv_one) (by omega) hK'.size
          simp (disch := first | omega | assumption | (simp only [size_alloc, size_put] <;> omega) | (simp only [RK, Nat.reduceAdd] <;> omega) | fail) only [R1, R, Nat.reduceBEq, Nat.reduceAdd, h4', h3', ek, e]
          refine ⟨trivial, _, rfl, ?_, hK'.app hX hO'.2⟩
          rw [happ (by rw [hcast, h1, h2]; rfl)]; exact hO3
        · simp (disch := first | omega | assumption | (simp only [size_alloc, size_put] <;> omega) | (simp only [RK, Nat.reduceAdd] <;> omega) | fail) only [R1, R, Nat.reduceBEq, Nat.reduceAdd]
          refine ⟨h4', _, h3', ?_, hK'⟩
          rw [hskip (by rw [h2]; simp)]; exact hO'
      · simp (disch := first | omega | assumption | (simp only [size_alloc, size_put] <;> omega) | (simp only [RK, Nat.reduceAdd] <;> omega) | fail) only [R1, R, Nat.reduceBEq, Nat.reduceAdd, h1]
        refine ⟨h4', _, h3', ?_, hK'⟩
        rw [hskip (by rw [hcast, h1]; rfl)]; exact hO'
    · rintro t' H2 hi' hn' hT' ⟨h4', w', h3', hO', hK'⟩
      rw [List.take_length] at hO'
      simp (disch := first | omega | assumption | (simp only [size_alloc, size_put] <;> omega) | (simp only [RK, Nat.reduceAdd] <;> omega) | fail) only [R1, R, Nat.reduceBEq, Nat.reduceAdd, h4']
      refine ⟨hkk, by omega, by congr 1, _, h3', ?_, hK'⟩
      rw [sNodes_succ]; exact hO'
  · simp only [decide_eq_false_iff_not] at h
    have hk' : k = 12 := by omega
    subst hk'
    simp (disch := first | omega | assumption | (simp only [size_alloc, size_put] <;> omega) | (simp only [RK, Nat.reduceAdd] <;> omega) | fail) only [R1, R, Nat.reduceBEq, Nat.reduceAdd, h3]
    exact ⟨hO, hK⟩
end Go.AE
set_option linter.unusedVariables false
namespace Go.AE

/-- shorter ones first, those of one length in order -/
def ltL (a b : Str) : Prop := a.length < b.length ∨ (a.length = b.length ∧ a < b)

theorem ltL_irrefl (a : Str) : ¬ ltL a a := by
  rintro (h | ⟨_, h⟩)
  · omega
  · exact List.lt_irrefl a h
theorem ltL_trans {a b c : Str} (h : ltL a b) (h' : ltL b c) : ltL a c := by
  rcases h with h | ⟨h1, h2⟩ <;> rcases h' with h' | ⟨h3, h4⟩
  · exact .inl (by omega)
  · exact .inl (by omega)
  · exact .inl (by omega)
  · exact .inr ⟨by omega, List.lt_trans h2 h4⟩
theorem ltL_tri (a b : Str) : ltL a b ∨ a = b ∨ ltL b a := by
  rcases Nat.lt_trichotomy a.length b.length with h | h | h
  · exact .inl (.inl h)
  · by_cases h1 : a < b
    · exact .inl (.inr ⟨h, h1⟩)
    · by_cases h2 : b < a
      · exact .inr (.inr (.inr ⟨h.symm, h2⟩))
      · exact .inr (.inl (List.le_antisymm h2 h1))
  · exact .inr (.inr (.inl h))
theorem leL_iff {a b : Str} : leL a b = true ↔ ltL a b ∨ a = b := by
  simp only [leL, leS, Bool.or_eq_true, Bool.and_eq_true, decide_eq_true_eq, Bool.not_eq_true', decide_eq_false_iff_not, ltL]
  constructor
  · rintro (h | ⟨h1, h2⟩)
    · exact .inl (.inl h)
    · by_cases h3 : a < b
      · exact .inl (.inr ⟨h1, h3⟩)
      · exact .inr (List.le_antisymm h2 h3)
  · rintro ((h | ⟨h1, h2⟩) | rfl)
    · exact .inl h
    · exact .inr ⟨h1, fun h3 => List.lt_asymm h2 h3⟩
    · exact .inr ⟨rfl, List.lt_irrefl _⟩
theorem leL_trans (a b c : Str) (h : leL a b = true) (h' : leL b c = true) : leL a c = true := by
  rw [leL_iff] at *
  rcases h with h | rfl
  · rcases h' with h' | rfl
    · exact .inl (ltL_trans h h')
    · exact .inl h
  · exact h'
theorem leL_total (a b : Str) : (leL a b || leL b a) = true := by
  rw [Bool.or_eq_true, leL_iff, leL_iff]
  rcases ltL_tri a b with h | rfl | h
  · exact .inl (.inl h)
  · exact .inl (.inr rfl)
  · exact .inr (.inl h)

theorem mem_dedup {l : List Str} {x : Str} : x ∈ dedup l ↔ x ∈ l := by
  induction l using dedup.induct with
  | case1 => simp [dedup]
  | case2 a => simp [dedup]
  | case3 b r ih => simp only [dedup, if_true, ih, List.mem_cons]; constructor <;> rintro (h | h) <;> simp_all
  | case4 a b r hne ih => simp only [dedup, if_neg hne, List.mem_cons, ih]
theorem dedup_sorted {l : List Str} (h : l.Pairwise fun a b => leL a b = true) : (dedup l).Pairwise ltL := by
  induction l using dedup.induct with
  | case1 => simp [dedup]
  | case2 a => simp [dedup]
  | case3 b r ih => simp only [dedup, if_true]; exact ih (List.Pairwise.of_cons h)
  | case4 a b r hne ih =>
    simp only [dedup, if_neg hne]
    refine List.Pairwise.cons ?_ (ih (List.Pairwise.of_cons h))
    intro x hx
    rw [mem_dedup] at hx
    have hab := leL_iff.mp ((List.pairwise_cons.mp h).1 b (.head _))
    have hab' : ltL a b := hab.resolve_right hne
    rcases List.mem_cons.mp hx with rfl | hx
    · exact hab'
    · have hbx := leL_iff.mp ((List.pairwise_cons.mp (List.Pairwise.of_cons h)).1 x hx)
      rcases hbx with h' | rfl
      · exact ltL_trans hab' h'
      · exact hab'

theorem sorted_ext {a b : List Str} (ha : a.Pairwise ltL) (hb : b.Pairwise ltL) (h : ∀ x, x ∈ a ↔ x ∈ b) : a = b := by
  induction a generalizing b with
  | nil =>
    cases b with
    | nil => rfl
    | cons y b => exact absurd ((h y).mpr (.head _)) (by simp)
  | cons x a ih =>
    cases b with
    | nil => exact absurd ((h x).mp (.head _)) (by simp)
    | cons y b =>
      have hxa := List.pairwise_cons.mp ha
      have hyb := List.pairwise_cons.mp hb
      have hxy : x = y := by
        rcases List.mem_cons.mp ((h x).mp (.head _)) with e | hx
        · exact e
        · rcases List.mem_cons.mp ((h y).mpr (.head _)) with e | hy
          · exact e.symm
          · exact absurd (ltL_trans (hyb.1 x hx) (hxa.1 y hy)) (ltL_irrefl _)
      subst hxy
      congr 1
      refine ih hxa.2 hyb.2 fun z => ?_
      constructor
      · intro hz
        rcases List.mem_cons.mp ((h z).mp (.tail _ hz)) with rfl | h'
        · exact absurd (hxa.1 z hz) (ltL_irrefl _)
        · exact h'
      · intro hz
        rcases List.mem_cons.mp ((h z).mpr (.tail _ hz)) with rfl | h'
        · exact absurd (hyb.1 z hz) (ltL_irrefl _)
        · exact h'

/-- What the nodes of keys are. -/
def IsNode (keys : List Str) (x : Str) : Prop := x = [] ∨ ∃ s ∈ keys, 1 ≤ x.length ∧ x.length ≤ s.length ∧ s.take x.length = x

theorem mem_prefixes {s x : Str} : x ∈ prefixes s s.length ↔ 1 ≤ x.length ∧ x.length ≤ s.length ∧ s.take x.length = x := by
  simp only [prefixes, List.mem_map, List.mem_range]
  constructor
  · rintro ⟨i, hi, rfl⟩
    rw [List.length_take, Nat.min_eq_left (by omega)]
    exact ⟨by omega, by omega, rfl⟩
  · rintro ⟨h1, h2, h3⟩
    refine ⟨x.length - 1, by omega, ?_⟩
    rw [Nat.sub_add_cancel h1, h3]
theorem mem_nodesOf {keys : List Str} {x : Str} : x ∈ nodesOf keys ↔ IsNode keys x := by
  rw [nodesOf, mem_dedup, List.mem_mergeSort, rawNodes, List.mem_cons, List.mem_flatMap]
  simp only [mem_prefixes, IsNode]
theorem nodesOf_sorted {keys : List Str} : (nodesOf keys).Pairwise ltL := dedup_sorted (List.pairwise_mergeSort leL_trans leL_total _)

/-! ### by levels -/

theorem take_le {a b : Str} (h : ¬ b < a) (n : Nat) : ¬ b.take n < a.take n := by
  induction n generalizing a b with
  | zero => simp
  | succ n ih =>
    cases b with
    | nil =>
      cases a with
      | nil => simp
      | cons x a => exact absurd (List.nil_lt_cons x a) h
    | cons y b =>
      cases a with
      | nil => simp
      | cons x a =>
        simp only [List.take_succ_cons, List.cons_lt_cons_iff] at *
        intro h'
        rcases h' with h' | ⟨e, h'⟩
        · exact h (.inl h')
        · exact ih (fun h2 => h (.inr ⟨e, h2⟩)) h'

theorem lvl_spec {n : Nat} (hn : 1 ≤ n) {out0 : List Str} (h0 : out0 ≠ []) (hlt : ∀ x ∈ out0, x.length < n) (hs0 : out0.Pairwise ltL) :
    ∀ (keys L : List Str), keys.Pairwise (· < ·) → (∀ x ∈ L, x.length = n) → L.Pairwise ltL → (∀ x ∈ L, ∀ s ∈ keys, ¬ s.take n < x) →
      ∃ M, lvl n keys (out0 ++ L) = out0 ++ M ∧ (∀ x ∈ M, x.length = n) ∧ M.Pairwise ltL ∧ ∀ x, x ∈ M ↔ x ∈ L ∨ ∃ s ∈ keys, n ≤ s.length ∧ s.take n = x := by
  intro keys
  induction keys with
  | nil => intro L _ h1 h2 _; exact ⟨L, rfl, h1, h2, by simp⟩
  | cons s r ih =>
    intro L hk h1 h2 h3
    have hk' := List.pairwise_cons.mp hk
    have hgt : ∀ s' ∈ r, ¬ s'.take n < s.take n := fun s' hs' => take_le (fun h => List.lt_asymm h (hk'.1 s' hs')) n
    simp only [lvl, List.foldl_cons] at ih ⊢
    by_cases hc : (decide ((n : Int) ≤ s.length) && !decide (s.take n = (out0 ++ L).getD ((out0 ++ L).length - 1) default)) = true
    · rw [show lvlStep n (out0 ++ L) s = out0 ++ (L ++ [s.take n]) by rw [lvlStep, if_pos hc, List.append_assoc]]
      simp only [Bool.and_eq_true, decide_eq_true_eq, Bool.not_eq_true', decide_eq_false_iff_not] at hc
      have hls : n ≤ s.length := by omega
      have htl : (s.take n).length = n := by rw [List.length_take]; omega
      have hpw : (L ++ [s.take n]).Pairwise ltL := by
        rw [List.pairwise_append]
        refine ⟨h2, List.pairwise_singleton _ _, ?_⟩
        intro x hx y hy
        rw [List.mem_singleton] at hy
        subst hy
        refine .inr ⟨by rw [h1 x hx, htl], ?_⟩
        have hnlt := h3 x hx s (.head _)
        have hne : x ≠ s.take n := by
          rintro rfl
          -- the last of L
          have hL : L ≠ [] := List.ne_nil_of_mem hx
          have hlast : (out0 ++ L).getD ((out0 ++ L).length - 1) default = L.getLast hL := by
            have hll : 0 < L.length := List.length_pos_iff.mpr hL
            rw [getD_eq (by rw [List.length_append]; omega), List.getElem_append_right (by rw [List.length_append]; omega), List.getLast_eq_getElem]
            congr 1
            rw [List.length_append]; omega
          rw [hlast] at hc
          have hmem := List.getLast_mem hL
          have hlt2 := h3 _ hmem s (.head _)
          have : ltL (s.take n) (L.getLast hL) := by
            obtain ⟨i, hi, e⟩ := List.getElem_of_mem hx
            have hi2 : i < L.length - 1 := by
              rcases Nat.lt_or_ge i (L.length - 1) with h | h
              · exact h
              · exfalso
                apply hc.2
                rw [List.getLast_eq_getElem, ← e]
                congr 1; omega
            have := List.pairwise_iff_getElem.mp h2 i (L.length - 1) hi (by omega) hi2
            rw [e] at this
            rw [List.getLast_eq_getElem]; exact this
          rcases this with h | ⟨_, h⟩
          · rw [htl, h1 _ hmem] at h; omega
          · exact hlt2 h
        by_cases h : x < s.take n
        · exact h
        · exact absurd (List.le_antisymm hnlt h) hne
      obtain ⟨M, e, m1, m2, m3⟩ := ih (L ++ [s.take n]) hk'.2 (by
        intro x hx
        rcases List.mem_append.mp hx with hx | hx
        · exact h1 x hx
        · rw [List.mem_singleton] at hx; rw [hx, htl]) hpw (by
        intro x hx s' hs'
        rcases List.mem_append.mp hx with hx | hx
        · exact h3 x hx s' (.tail _ hs')
        · rw [List.mem_singleton] at hx; rw [hx]; exact hgt s' hs')
      refine ⟨M, e, m1, m2, fun x => ?_⟩
      rw [m3]
      simp only [List.mem_append, List.mem_cons, List.not_mem_nil, or_false, exists_eq_or_imp]
      constructor
      · rintro ((h | rfl) | h)
        · exact .inl h
        · exact .inr (.inl ⟨hls, rfl⟩)
        · exact .inr (.inr h)
      · rintro (h | ⟨_, rfl⟩ | h)
        · exact .inl (.inl h)
        · exact .inl (.inr rfl)
        · exact .inr h
    · rw [show lvlStep n (out0 ++ L) s = out0 ++ L by rw [lvlStep, if_neg hc]]
      obtain ⟨M, e, m1, m2, m3⟩ := ih L hk'.2 h1 h2 (fun x hx s' hs' => h3 x hx s' (.tail _ hs'))
      refine ⟨M, e, m1, m2, fun x => ?_⟩
      rw [m3]
      simp only [List.mem_cons, exists_eq_or_imp]
      constructor
      · rintro (h | h)
        · exact .inl h
        · exact .inr (.inr h)
      · rintro (h | ⟨hls, rfl⟩ | h)
        · exact .inl h
        · left
          simp only [Bool.and_eq_true, decide_eq_true_eq, Bool.not_eq_true', decide_eq_false_iff_not, not_and, Decidable.not_not] at hc
          have he := hc (by omega)
          have htl : (s.take n).length = n := by rw [List.length_take]; omega
          by_cases hL : L = []
          · exfalso
            subst hL
            rw [List.append_nil] at he
            have hp : 0 < out0.length := List.length_pos_iff.mpr h0
            rw [getD_eq (by omega)] at he
            have := hlt _ (List.getElem_mem (show out0.length - 1 < out0.length by omega))
            rw [← he, htl] at this; omega
          · have hll : 0 < L.length := List.length_pos_iff.mpr hL
            rw [getD_eq (by rw [List.length_append]; omega), List.getElem_append_right (by rw [List.length_append]; omega)] at he
            rw [he]; exact List.getElem_mem _
        · exact .inr h

theorem areKeys_sorted {keys : List Str} (h : areKeys keys = true) : keys.Pairwise (· < ·) := by
  simp only [areKeys, Bool.and_eq_true] at h
  have hstep : ∀ i (hi : i + 1 < keys.length), keys[i] < keys[i + 1] := by
    intro i hi
    have := List.all_eq_true.mp h.1 (i + 1) (List.mem_range.mpr hi)
    simp only [keyAt, Bool.and_eq_true, Bool.not_eq_true', Bool.and_eq_false_iff, decide_eq_false_iff_not, Bool.not_eq_false', decide_eq_true_eq] at this
    rcases this.2 with h' | h'
    · omega
    · rw [Nat.add_sub_cancel, getD_eq (by omega), getD_eq hi] at h'; exact h'
  rw [List.pairwise_iff_getElem]
  intro i j hi hj hij
  obtain ⟨d, rfl⟩ := Nat.exists_eq_add_of_lt hij
  induction d with
  | zero => exact hstep i hj
  | succ d ih => exact List.lt_trans (ih (by omega) (by omega)) (hstep (i + d + 1) (by omega))

theorem sNodes_spec {keys : List Str} (hk : keys.Pairwise (· < ·)) (k : Nat) :
    (sNodes keys k).Pairwise ltL ∧ (∀ x ∈ sNodes keys k, x.length ≤ k) ∧ ∀ x, x ∈ sNodes keys k ↔ IsNode keys x ∧ x.length ≤ k := by
  induction k with
  | zero =>
    refine ⟨by simp [sNodes], by simp [sNodes], fun x => ?_⟩
    simp only [sNodes, List.range_zero, List.foldl_nil, List.mem_singleton, IsNode]
    constructor
    · rintro rfl; exact ⟨.inl rfl, by simp⟩
    · rintro ⟨h | ⟨s, _, h1, _⟩, h2⟩
      · exact h
      · omega
  | succ k ih =>
    obtain ⟨i1, i2, i3⟩ := ih
    have hne : sNodes keys k ≠ [] := by
      have := (@sNodes_len keys k).1
      intro h; rw [h] at this; simp at this
    obtain ⟨M, e, m1, m2, m3⟩ := lvl_spec (n := k + 1) (by omega) hne (fun x hx => by have := i2 x hx; omega) i1 keys [] hk (by simp) List.Pairwise.nil (by simp)
    rw [List.append_nil] at e
    rw [sNodes_succ, e]
    refine ⟨?_, ?_, fun x => ?_⟩
    · rw [List.pairwise_append]
      exact ⟨i1, m2, fun x hx y hy => .inl (by rw [m1 y hy]; have := i2 x hx; omega)⟩
    · intro x hx
      rcases List.mem_append.mp hx with hx | hx
      · have := i2 x hx; omega
      · rw [m1 x hx]; exact Nat.le_refl _
    · rw [List.mem_append, i3, m3]
      constructor
      · rintro (⟨h1, h2⟩ | h | ⟨s, hs, h1, rfl⟩)
        · exact ⟨h1, by omega⟩
        · simp at h
        · have htl : (s.take (k + 1)).length = k + 1 := by rw [List.length_take]; omega
          exact ⟨.inr ⟨s, hs, by omega, by omega, by rw [htl]⟩, by omega⟩
      · rintro ⟨h1, h2⟩
        rcases Nat.lt_or_ge x.length (k + 1) with h | h
        · exact .inl ⟨h1, by omega⟩
        · right; right
          have hx : x.length = k + 1 := by omega
          rcases h1 with rfl | ⟨s, hs, h3, h4, h5⟩
          · simp at hx
          · exact ⟨s, hs, by omega, by rw [← hx]; exact h5⟩

/-- The two lists of nodes are one. -/
theorem nodes_same {keys : List Str} (hk : areKeys keys = true) : sNodes keys 12 = nodesOf keys := by
  have hs := areKeys_sorted hk
  obtain ⟨h1, h2, h3⟩ := sNodes_spec hs 12
  refine sorted_ext h1 nodesOf_sorted fun x => ?_
  rw [h3, mem_nodesOf]
  refine ⟨And.left, fun h => ⟨h, ?_⟩⟩
  rcases h with rfl | ⟨s, hs', _, h4, _⟩
  · simp
  · have := (areKeys_len hk).2 s hs'; omega
end Go.AE
set_option linter.unusedVariables false
set_option linter.unusedSimpArgs false
namespace Go.AE

def shapeOf (cnt : Str → Nat) (nodes : List Str) : List Bool := nodes.flatMap fun s => List.replicate (cnt s) true ++ [false]
def endsOf (keys nodes : List Str) : List Bool := nodes.map keys.contains
def labelsOf (nodes : List Str) : Str := (nodes.drop 1).map fun s => s.getD (s.length - 1) default

theorem shapeOf_len {cnt : Str → Nat} {nodes : List Str} {m : Nat} (h : ∀ s ∈ nodes, cnt s ≤ m) : (shapeOf cnt nodes).length ≤ nodes.length * (m + 1) := by
  induction nodes with
  | nil => simp [shapeOf]
  | cons a r ih =>
    have h1 := ih fun s hs => h s (.tail _ hs)
    have h2 := h a (.head _)
    have e : shapeOf cnt (a :: r) = (List.replicate (cnt a) true ++ [false]) ++ shapeOf cnt r := rfl
    rw [e]
    simp only [List.length_append, List.length_replicate, List.length_cons, List.length_nil, Nat.succ_mul]
    omega
theorem shapeOf_take {cnt : Str → Nat} {nodes : List Str} {k : Nat} (hk : k < nodes.length) : shapeOf cnt (nodes.take (k + 1)) = shapeOf cnt (nodes.take k) ++ (List.replicate (cnt (nodes.getD k default)) true ++ [false]) := by
  rw [take_succ_getD hk, shapeOf, List.flatMap_append]; simp [shapeOf]
theorem labelsOf_take {nodes : List Str} {k : Nat} (hk : k < nodes.length) : labelsOf (nodes.take (k + 1)) = labelsOf (nodes.take k) ++ (if k = 0 then [] else [(nodes.getD k default).getD ((nodes.getD k default).length - 1) default]) := by
  rw [take_succ_getD hk, labelsOf, labelsOf]
  cases k with
  | zero => simp
  | succ k =>
    rw [List.drop_append_of_le_length (by simp; omega), List.map_append]; simp
theorem nodesOf_head {keys : List Str} : ∃ r, nodesOf keys = [] :: r ∧ ∀ x ∈ r, 1 ≤ x.length := by
  have hm : [] ∈ nodesOf keys := mem_nodesOf.mpr (.inl rfl)
  have hs := @nodesOf_sorted keys
  cases h : nodesOf keys with
  | nil => rw [h] at hm; simp at hm
  | cons a r =>
    rw [h] at hm hs
    have hc := List.pairwise_cons.mp hs
    have ha : a = [] := by
      rcases List.mem_cons.mp hm with e | e
      · exact e.symm
      · rcases hc.1 _ e with h' | ⟨h', _⟩
        · simp at h'
        · exact List.length_eq_zero_iff.mp h'
    refine ⟨r, by rw [ha], fun x hx => ?_⟩
    rcases hc.1 x hx with h' | ⟨h1, h2⟩
    · omega
    · rw [ha] at h2 h1
      cases x with
      | nil => exact absurd h2 (List.lt_irrefl _)
      | cons b c => simp
theorem nodesOf_len {keys : List Str} (hk : areKeys keys = true) : (nodesOf keys).length ≤ 481 ∧ ∀ s ∈ nodesOf keys, s.length ≤ 12 := by
  have hl := areKeys_len hk
  constructor
  · rw [← nodes_same hk]
    have := (@sNodes_len keys 12).2
    omega
  · intro s hs
    rcases mem_nodesOf.mp hs with rfl | ⟨t, ht, _, h, _⟩
    · simp
    · have := hl.2 t ht; omega

def kids (nodes : List Str) (s : Str) : List Str := nodes.filter (isChild s)
theorem children_kids {nodes : List Str} {s : Str} : children nodes s = (kids nodes s).length := rfl

theorem isChild_iff {s c : Str} : isChild s c = true ↔ c.length = s.length + 1 ∧ c.take s.length = s := by
  simp only [isChild, begins, Bool.and_eq_true, decide_eq_true_eq]
  constructor
  · rintro ⟨h1, h2, h3⟩; exact ⟨by omega, h3⟩
  · rintro ⟨h1, h2⟩; exact ⟨by omega, by omega, h2⟩

theorem lt_of_take {a b x y : Str} (hab : a < b) (hl : a.length = b.length) (hx : x.take a.length = a) (hy : y.take b.length = b) : x < y := by
  have e1 : x = a ++ x.drop a.length := (List.take_append_drop a.length x).symm.trans (by rw [hx])
  have e2 : y = b ++ y.drop b.length := (List.take_append_drop b.length y).symm.trans (by rw [hy])
  rw [e1, e2]
  generalize x.drop a.length = p
  generalize y.drop b.length = q
  clear hx hy e1 e2
  induction a generalizing b with
  | nil =>
    have : b = [] := List.length_eq_zero_iff.mp hl.symm
    subst this; exact absurd hab (List.lt_irrefl _)
  | cons u a ih =>
    cases b with
    | nil => simp at hl
    | cons v b =>
      rw [List.cons_append, List.cons_append, List.cons_lt_cons_iff]
      rw [List.cons_lt_cons_iff] at hab
      rcases hab with h | ⟨h1, h2⟩
      · exact .inl h
      · exact .inr ⟨h1, ih h2 (by simpa using hl)⟩

theorem kids_lt {nodes : List Str} {a b x y : Str} (hab : ltL a b) (hx : x ∈ kids nodes a) (hy : y ∈ kids nodes b) : ltL x y := by
  have h1 := isChild_iff.mp (List.mem_filter.mp hx).2
  have h2 := isChild_iff.mp (List.mem_filter.mp hy).2
  rcases hab with h | ⟨h, h'⟩
  · exact .inl (by omega)
  · exact .inr ⟨by omega, lt_of_take h' h h1.2 h2.2⟩

theorem parent_node {keys : List Str} {x : Str} (h : IsNode keys x) : IsNode keys (x.take (x.length - 1)) := by
  rcases h with rfl | ⟨s, hs, h1, h2, h3⟩
  · exact .inl rfl
  · by_cases hx : x.length = 1
    · left; rw [hx]; rfl
    · right
      have hl : (x.take (x.length - 1)).length = x.length - 1 := by rw [List.length_take]; omega
      refine ⟨s, hs, by omega, by omega, ?_⟩
      rw [hl, ← h3, List.take_take, h3]
      congr 1; omega

/-- The children of all nodes, one node behind the other, are all nodes but the first. -/
theorem flat_kids {keys : List Str} : (nodesOf keys).flatMap (kids (nodesOf keys)) = (nodesOf keys).drop 1 := by
  have hs := @nodesOf_sorted keys
  obtain ⟨r, hr, hr1⟩ := @nodesOf_head keys
  refine sorted_ext ?_ (hs.sublist (List.drop_sublist _ _)) fun x => ?_
  · rw [List.pairwise_flatMap]
    refine ⟨fun a _ => hs.sublist List.filter_sublist, ?_⟩
    exact hs.imp fun hab x hx y hy => kids_lt hab hx hy
  · rw [List.mem_flatMap]
    have hd : x ∈ (nodesOf keys).drop 1 ↔ x ∈ nodesOf keys ∧ x ≠ [] := by
      rw [hr]
      simp only [List.drop_succ_cons, List.drop_zero, List.mem_cons]
      constructor
      · intro h
        refine ⟨.inr h, ?_⟩
        rintro rfl
        have := hr1 _ h
        simp at this
      · rintro ⟨h | h, h'⟩
        · exact absurd h h'
        · exact h
    rw [hd]
    constructor
    · rintro ⟨s, _, h⟩
      have h' := List.mem_filter.mp h
      refine ⟨h'.1, ?_⟩
      rintro rfl
      have := (isChild_iff.mp h'.2).1
      simp at this
    · rintro ⟨h, hne⟩
      have hpos : 0 < x.length := List.length_pos_iff.mpr hne
      have hl : (x.take (x.length - 1)).length = x.length - 1 := by rw [List.length_take]; omega
      refine ⟨x.take (x.length - 1), mem_nodesOf.mpr (parent_node (mem_nodesOf.mp h)), List.mem_filter.mpr ⟨h, isChild_iff.mpr ⟨by omega, ?_⟩⟩⟩
      rw [hl]

/-- How many children the first k nodes have. -/
def before (nodes : List Str) (k : Nat) : Nat := ((nodes.take k).flatMap (kids nodes)).length

theorem before_succ {nodes : List Str} {k : Nat} (hk : k < nodes.length) : before nodes (k + 1) = before nodes k + (kids nodes (nodes.getD k default)).length := by
  rw [before, take_succ_getD hk, List.flatMap_append, List.length_append]; simp [before]
theorem flat_pre {keys : List Str} {k : Nat} : ((nodesOf keys).take k).flatMap (kids (nodesOf keys)) = ((nodesOf keys).drop 1).take (before (nodesOf keys) k) := by
  have h := @flat_kids keys
  have e : (nodesOf keys).flatMap (kids (nodesOf keys)) = ((nodesOf keys).take k).flatMap (kids (nodesOf keys)) ++ ((nodesOf keys).drop k).flatMap (kids (nodesOf keys)) := by
    rw [← List.flatMap_append, List.take_append_drop]
  rw [← h, e, before, List.take_left]
theorem before_le {keys : List Str} {k : Nat} : before (nodesOf keys) k + 1 ≤ (nodesOf keys).length := by
  have h := congrArg List.length (@flat_kids keys)
  have e : (nodesOf keys).flatMap (kids (nodesOf keys)) = ((nodesOf keys).take k).flatMap (kids (nodesOf keys)) ++ ((nodesOf keys).drop k).flatMap (kids (nodesOf keys)) := by
    rw [← List.flatMap_append, List.take_append_drop]
  obtain ⟨r, hr, _⟩ := @nodesOf_head keys
  have hpos : 0 < (nodesOf keys).length := by rw [hr]; simp
  rw [e, List.length_append, List.length_drop] at h
  unfold before
  omega

/-- A node is behind its parent. -/
theorem node_idx {keys : List Str} {i j : Nat} (hi : i < (nodesOf keys).length) (hj : j < (nodesOf keys).length) (h : isChild ((nodesOf keys).getD i default) ((nodesOf keys).getD j default) = true) : i < j := by
  rcases Nat.lt_or_ge i j with h' | h'
  · exact h'
  · exfalso
    have h1 := (isChild_iff.mp h).1
    rw [getD_eq hi, getD_eq hj] at h1
    rcases Nat.eq_or_lt_of_le h' with rfl | h'
    · omega
    · have := List.pairwise_iff_getElem.mp (@nodesOf_sorted keys) j i hj hi h'
      rcases this with h2 | ⟨h2, _⟩ <;> omega

theorem before_ge {keys : List Str} {k : Nat} (hk : k < (nodesOf keys).length) : k ≤ before (nodesOf keys) k := by
  rcases Nat.lt_or_ge (before (nodesOf keys) k) k with h | h
  · exfalso
    -- the node behind those that are told so far has its parent from k on
    have hm : before (nodesOf keys) k + 1 < (nodesOf keys).length := by omega
    have hall := @flat_kids keys
    have e : (nodesOf keys).flatMap (kids (nodesOf keys)) = ((nodesOf keys).take k).flatMap (kids (nodesOf keys)) ++ ((nodesOf keys).drop k).flatMap (kids (nodesOf keys)) := by
      rw [← List.flatMap_append, List.take_append_drop]
    rw [e] at hall
    have hx : (((nodesOf keys).drop k).flatMap (kids (nodesOf keys)))[0]? = some ((nodesOf keys).getD (before (nodesOf keys) k + 1) default) := by
      have := congrArg (fun l : List Str => l[before (nodesOf keys) k]?) hall
      simp only [List.getElem?_drop] at this
      rw [List.getElem?_append_right (by exact Nat.le_refl _)] at this
      have e0 : before (nodesOf keys) k - (((nodesOf keys).take k).flatMap (kids (nodesOf keys))).length = 0 := Nat.sub_self _
      rw [e0] at this
      rw [this, getD_eq hm, Nat.add_comm, List.getElem?_eq_getElem hm]
    have hmem : (nodesOf keys).getD (before (nodesOf keys) k + 1) default ∈ ((nodesOf keys).drop k).flatMap (kids (nodesOf keys)) := List.mem_of_getElem? hx
    obtain ⟨s, hs, hc⟩ := List.mem_flatMap.mp hmem
    obtain ⟨j, hj, rfl⟩ := List.getElem_of_mem hs
    rw [List.length_drop] at hj
    have hkj : k + j < (nodesOf keys).length := by omega
    have hc' := (List.mem_filter.mp hc).2
    rw [List.getElem_drop] at hc'
    have := node_idx (keys := keys) (i := k + j) (j := before (nodesOf keys) k + 1) hkj hm (by rw [getD_eq hkj]; exact hc')
    omega
  · exact h

theorem before_all {keys : List Str} : before (nodesOf keys) (nodesOf keys).length + 1 = (nodesOf keys).length := by
  have h := congrArg List.length (@flat_kids keys)
  obtain ⟨r, hr, _⟩ := @nodesOf_head keys
  have hpos : 0 < (nodesOf keys).length := by rw [hr]; simp
  rw [List.length_drop] at h
  unfold before
  rw [List.take_length, h]; omega

/-! ### reading -/

structure RdS where
  at_ : Nat
  out : List Str

/-- One bit of the shape: none: it is no trie's. -/
def rdStep (cap : Nat) (lb : Str) (st : RdS) (b : Bool) : Option RdS :=
  if st.out.length ≤ st.at_ then none
  else if b = false then some ⟨st.at_ + 1, st.out⟩
  else if lb.length < st.out.length ∨ (st.out.getD st.at_ default).length = cap then none
  else some ⟨st.at_, st.out ++ [st.out.getD st.at_ default ++ [lb.getD (st.out.length - 1) default]]⟩
def rdRun (cap : Nat) (lb : Str) : List Bool → RdS → Option RdS
  | [], st => some st
  | b :: r, st => (match rdStep cap lb st b with | some st' => rdRun cap lb r st' | none => none)

theorem rdRun_app {cap : Nat} {lb : Str} {a b : List Bool} {st : RdS} : rdRun cap lb (a ++ b) st = (match rdRun cap lb a st with | some st' => rdRun cap lb b st' | none => none) := by
  induction a generalizing st with
  | nil => rfl
  | cons x a ih =>
    simp only [List.cons_append, rdRun]
    cases rdStep cap lb st x with
    | none => rfl
    | some st' => simp only [ih]
theorem rdRun_snoc {cap : Nat} {lb : Str} {a : List Bool} {x : Bool} {st : RdS} : rdRun cap lb (a ++ [x]) st = (match rdRun cap lb a st with | some st' => rdStep cap lb st' x | none => none) := by
  rw [rdRun_app]
  cases rdRun cap lb a st with
  | none => rfl
  | some st' =>
    simp only [rdRun]
    cases rdStep cap lb st' x <;> rfl

theorem take_snoc {α : Type} [Inhabited α] {l : List α} {m : Nat} (hm : m < l.length) : l.take m ++ [l.getD m default] = l.take (m + 1) := (take_succ_getD hm).symm

theorem child_snoc {s c : Str} (h : isChild s c = true) : s ++ [c.getD (c.length - 1) default] = c := by
  obtain ⟨h1, h2⟩ := isChild_iff.mp h
  have hlt : s.length < c.length := by omega
  rw [show c.length - 1 = s.length by omega]
  conv => rhs; rw [← List.take_length (l := c), h1, take_succ_getD hlt, h2]

/-- The children of node k are read one by one. -/
theorem rd_kids {keys : List Str} {cap k : Nat} (hk : k < (nodesOf keys).length) (hcap : ∀ s ∈ nodesOf keys, s.length ≤ cap) :
    ∀ q, q ≤ (kids (nodesOf keys) ((nodesOf keys).getD k default)).length →
      rdRun cap (labelsOf (nodesOf keys)) (List.replicate q true) ⟨k, (nodesOf keys).take (before (nodesOf keys) k + 1)⟩ = some ⟨k, (nodesOf keys).take (before (nodesOf keys) k + 1 + q)⟩ := by
  intro q
  induction q with
  | zero => intro _; rfl
  | succ q ih =>
    intro hq
    have hlt := before_ge hk
    have hle := @before_le keys (k + 1)
    rw [before_succ hk] at hle
    have hbound : before (nodesOf keys) k + 1 + q < (nodesOf keys).length := by omega
    rw [List.replicate_succ', rdRun_snoc, ih (by omega)]
    have hol : ((nodesOf keys).take (before (nodesOf keys) k + 1 + q)).length = before (nodesOf keys) k + 1 + q := by rw [List.length_take]; omega
    have hat : ((nodesOf keys).take (before (nodesOf keys) k + 1 + q)).getD k default = (nodesOf keys).getD k default := by
      rw [getD_eq (by omega), getD_eq hk, List.getElem_take]
    -- the next node is child q of node k
    have hnext : (nodesOf keys).getD (before (nodesOf keys) k + 1 + q) default = (kids (nodesOf keys) ((nodesOf keys).getD k default)).getD q default := by
      have hp := @flat_pre keys (k + 1)
      rw [take_succ_getD hk, List.flatMap_append] at hp
      have := congrArg (fun l : List Str => l[before (nodesOf keys) k + q]?) hp
      simp only [List.flatMap_cons, List.flatMap_nil, List.append_nil] at this
      rw [List.getElem?_append_right (by unfold before; omega)] at this
      have e0 : before (nodesOf keys) k + q - (((nodesOf keys).take k).flatMap (kids (nodesOf keys))).length = q := by unfold before; omega
      rw [e0, List.getElem?_eq_getElem (by omega), List.getElem?_take, if_pos (by rw [before_succ hk]; omega), List.getElem?_drop, List.getElem?_eq_getElem (by omega)] at this
      rw [getD_eq hbound, getD_eq (by omega)]
      have e1 := Option.some.inj this
      rw [e1]
      congr 1; omega
    have hmem : (kids (nodesOf keys) ((nodesOf keys).getD k default)).getD q default ∈ kids (nodesOf keys) ((nodesOf keys).getD k default) := by
      rw [getD_eq (show q < (kids (nodesOf keys) ((nodesOf keys).getD k default)).length by omega)]; exact List.getElem_mem _
    have hch := (List.mem_filter.mp hmem).2
    have hlb : (labelsOf (nodesOf keys)).length = (nodesOf keys).length - 1 := by simp [labelsOf]
    have hlab : (labelsOf (nodesOf keys)).getD (before (nodesOf keys) k + 1 + q - 1) default = ((nodesOf keys).getD (before (nodesOf keys) k + 1 + q) default).getD (((nodesOf keys).getD (before (nodesOf keys) k + 1 + q) default).length - 1) default := by
      have e2 : before (nodesOf keys) k + 1 + q - 1 < (labelsOf (nodesOf keys)).length := by omega
      have e3 : 1 + (before (nodesOf keys) k + 1 + q - 1) = before (nodesOf keys) k + 1 + q := by omega
      rw [getD_eq e2]
      simp only [labelsOf, List.getElem_map, List.getElem_drop, e3]
      rw [getD_eq hbound]
    have hdep : ((nodesOf keys).getD k default).length ≠ cap := by
      have h1 := (isChild_iff.mp hch).1
      have h2 := hcap _ (List.mem_filter.mp hmem).1
      omega
    simp only [rdStep, hol, hat]
    have hn1 : ¬ ((labelsOf (nodesOf keys)).length < before (nodesOf keys) k + 1 + q ∨ ((nodesOf keys).getD k default).length = cap) := by
      rw [hlb]
      rintro (h | h)
      · omega
      · exact hdep h
    rw [if_neg (by omega), if_neg (by simp), if_neg hn1]
    rw [hlab, hnext, child_snoc hch, ← hnext, take_snoc hbound]
    rfl

theorem rd_nodes {keys : List Str} {cap : Nat} (hcap : ∀ s ∈ nodesOf keys, s.length ≤ cap) :
    ∀ k, k ≤ (nodesOf keys).length → rdRun cap (labelsOf (nodesOf keys)) (shapeOf (children (nodesOf keys)) ((nodesOf keys).take k)) ⟨0, [[]]⟩ = some ⟨k, (nodesOf keys).take (before (nodesOf keys) k + 1)⟩ := by
  intro k
  induction k with
  | zero =>
    intro _
    obtain ⟨r, hr, _⟩ := @nodesOf_head keys
    simp [shapeOf, rdRun, before, hr]
  | succ k ih =>
    intro hk
    have hk' : k < (nodesOf keys).length := by omega
    rw [shapeOf_take hk', rdRun_app, ih (by omega)]
    simp only [rdRun_app, rd_kids hk' hcap _ (Nat.le_refl _), children_kids]
    have hge := before_ge hk'
    have hle := @before_le keys (k + 1)
    rw [before_succ hk'] at hle
    have hol : ((nodesOf keys).take (before (nodesOf keys) k + 1 + (kids (nodesOf keys) ((nodesOf keys).getD k default)).length)).length = before (nodesOf keys) k + 1 + (kids (nodesOf keys) ((nodesOf keys).getD k default)).length := by rw [List.length_take]; omega
    simp only [rdRun, rdStep, hol]
    rw [if_neg (by omega)]
    simp only [if_true, before_succ hk']
    congr 3
    omega

/-- A trie's text is read as its nodes. -/
theorem rd_trie {keys : List Str} {cap : Nat} (hcap : ∀ s ∈ nodesOf keys, s.length ≤ cap) :
    rdRun cap (labelsOf (nodesOf keys)) (shapeOf (children (nodesOf keys)) (nodesOf keys)) ⟨0, [[]]⟩ = some ⟨(nodesOf keys).length, nodesOf keys⟩ := by
  have h := rd_nodes hcap _ (Nat.le_refl (nodesOf keys).length)
  rw [List.take_length, before_all, List.take_length] at h
  exact h

/-! ### the keys among the nodes -/

def pick (ends : List Bool) (nodes : List Str) : List Str := ((nodes.zip ends).filter Prod.snd).map Prod.fst

theorem pick_ends {keys nodes : List Str} : pick (endsOf keys nodes) nodes = nodes.filter keys.contains := by
  induction nodes with
  | nil => rfl
  | cons a r ih =>
    simp only [pick, endsOf, List.map_cons, List.zip_cons_cons] at ih ⊢
    cases h : keys.contains a with
    | true => simp only [List.filter_cons, h, if_true, List.map_cons, ih]
    | false => simp only [List.filter_cons, h, Bool.false_eq_true, if_false, ih]

theorem key_node {keys : List Str} (hk : areKeys keys = true) {s : Str} (hs : s ∈ keys) : s ∈ nodesOf keys := by
  rw [mem_nodesOf]
  refine .inr ⟨s, hs, ?_, Nat.le_refl _, List.take_length⟩
  obtain ⟨i, hi, rfl⟩ := List.getElem_of_mem hs
  simp only [areKeys, Bool.and_eq_true] at hk
  have := List.all_eq_true.mp hk.1 i (List.mem_range.mpr hi)
  simp only [keyAt, isKey, Bool.and_eq_true, decide_eq_true_eq, getD_eq hi] at this
  omega
theorem ends_mem {keys : List Str} (hk : areKeys keys = true) {x : Str} : x ∈ (nodesOf keys).filter keys.contains ↔ x ∈ keys := by
  rw [List.mem_filter, List.contains_iff_mem]
  exact ⟨And.right, fun h => ⟨key_node hk h, h⟩⟩

/-- Strictly rising lists of the same members are one. -/
theorem rising_ext {a b : List Str} (ha : a.Pairwise (· < ·)) (hb : b.Pairwise (· < ·)) (h : ∀ x, x ∈ a ↔ x ∈ b) : a = b := by
  induction a generalizing b with
  | nil =>
    cases b with
    | nil => rfl
    | cons y b => exact absurd ((h y).mpr (.head _)) (by simp)
  | cons x a ih =>
    cases b with
    | nil => exact absurd ((h x).mp (.head _)) (by simp)
    | cons y b =>
      have hxa := List.pairwise_cons.mp ha
      have hyb := List.pairwise_cons.mp hb
      have hxy : x = y := by
        rcases List.mem_cons.mp ((h x).mp (.head _)) with e | hx
        · exact e
        · rcases List.mem_cons.mp ((h y).mpr (.head _)) with e | hy
          · exact e.symm
          · exact absurd (List.lt_trans (hyb.1 x hx) (hxa.1 y hy)) (List.lt_irrefl _)
      subst hxy
      congr 1
      refine ih hxa.2 hyb.2 fun z => ?_
      constructor
      · intro hz
        rcases List.mem_cons.mp ((h z).mp (.tail _ hz)) with rfl | h'
        · exact absurd (hxa.1 z hz) (List.lt_irrefl _)
        · exact h'
      · intro hz
        rcases List.mem_cons.mp ((h z).mpr (.tail _ hz)) with rfl | h'
        · exact absurd (hyb.1 z hz) (List.lt_irrefl _)
        · exact h'

theorem leS_iff {a b : Str} : leS a b = true ↔ ¬ b < a := by simp [leS]
theorem leS_trans (a b c : Str) (h : leS a b = true) (h' : leS b c = true) : leS a c = true := by
  rw [leS_iff] at *
  intro h2
  by_cases h3 : a < b
  · exact h' (List.lt_trans h2 h3)
  · have : a = b := List.le_antisymm h h3
    subst this; exact h' h2
theorem leS_total (a b : Str) : (leS a b || leS b a) = true := by
  rw [Bool.or_eq_true, leS_iff, leS_iff]
  by_cases h : b < a
  · exact .inr fun h' => List.lt_asymm h h'
  · exact .inl h
theorem sort_rising {l : List Str} (hn : l.Nodup) : (l.mergeSort leS).Pairwise (· < ·) := by
  have h1 := List.pairwise_mergeSort leS_trans leS_total l
  have h2 : (l.mergeSort leS).Nodup := (List.mergeSort_perm l leS).nodup_iff.mpr hn
  refine (h1.and h2).imp ?_
  rintro a b ⟨h, hne⟩
  by_cases h3 : a < b
  · exact h3
  · exact absurd (List.le_antisymm (leS_iff.mp h) h3) hne
theorem sort_ends {keys : List Str} (hk : areKeys keys = true) : ((nodesOf keys).filter keys.contains).mergeSort leS = keys := by
  refine rising_ext (sort_rising ?_) (areKeys_sorted hk) fun x => ?_
  · refine List.Nodup.sublist List.filter_sublist ?_
    exact (@nodesOf_sorted keys).imp fun h e => by subst e; exact ltL_irrefl _ h
  · rw [List.mem_mergeSort, ends_mem hk]

/-! ### putting strings in order -/

theorem mem_tw {p : Str → Bool} {l : List Str} {x : Str} (h : x ∈ l.takeWhile p) : p x = true := by
  induction l with
  | nil => cases h
  | cons a l ih =>
    rw [List.takeWhile_cons] at h
    split at h
    · rename_i ha
      rcases List.mem_cons.mp h with rfl | h
      · exact ha
      · exact ih h
    · cases h
theorem head_dw {p : Str → Bool} {l r : List Str} {y : Str} (h : l.dropWhile p = y :: r) : p y = false := by
  induction l with
  | nil => cases h
  | cons a l ih =>
    rw [List.dropWhile_cons] at h
    split at h
    · exact ih h
    · rename_i ha
      cases h
      simpa using ha
def putS (l : List Str) (s : Str) : List Str :=
  let a := l.takeWhile fun x => decide (x < s)
  let b := l.dropWhile fun x => decide (x < s)
  if b.head? = some s then l else a ++ s :: b

theorem putS_mem {l : List Str} {s x : Str} : x ∈ putS l s ↔ x = s ∨ x ∈ l := by
  unfold putS
  have e : l.takeWhile (fun x => decide (x < s)) ++ l.dropWhile (fun x => decide (x < s)) = l := List.takeWhile_append_dropWhile
  simp only
  split
  · rename_i h
    constructor
    · exact .inr
    · rintro (rfl | h')
      · rw [← e]; exact List.mem_append_right _ (List.mem_of_head? h)
      · exact h'
  · rw [List.mem_append, List.mem_cons]
    conv => rhs; rw [← e, List.mem_append]
    constructor
    · rintro (h | h | h)
      · exact .inr (.inl h)
      · exact .inl h
      · exact .inr (.inr h)
    · rintro (h | h | h)
      · exact .inr (.inl h)
      · exact .inl h
      · exact .inr (.inr h)
theorem putS_rising {l : List Str} {s : Str} (hl : l.Pairwise (· < ·)) : (putS l s).Pairwise (· < ·) := by
  unfold putS
  simp only
  split
  · exact hl
  · rename_i hne
    have e : l.takeWhile (fun x => decide (x < s)) ++ l.dropWhile (fun x => decide (x < s)) = l := List.takeWhile_append_dropWhile
    have hl' := hl
    rw [← e, List.pairwise_append] at hl'
    obtain ⟨h1, h2, h3⟩ := hl'
    have ha : ∀ x ∈ l.takeWhile (fun x => decide (x < s)), x < s := by
      intro x hx
      have := mem_tw hx
      simpa using this
    have hb : ∀ x ∈ l.dropWhile (fun x => decide (x < s)), s < x := by
      cases hd : l.dropWhile (fun x => decide (x < s)) with
      | nil => intro x hx; cases hx
      | cons y r =>
        have hy : ¬ y < s := by
          have := head_dw (p := fun x => decide (x < s)) hd
          simpa using this
        have hys : s < y := by
          by_cases h : s < y
          · exact h
          · have : y = s := List.le_antisymm h hy
            rw [hd] at hne
            simp [this] at hne
        rw [hd] at h2
        intro x hx
        rcases List.mem_cons.mp hx with rfl | hx
        · exact hys
        · exact List.lt_trans hys ((List.pairwise_cons.mp h2).1 x hx)
    rw [List.pairwise_append]
    refine ⟨h1, List.Pairwise.cons hb h2, ?_⟩
    intro x hx y hy
    rcases List.mem_cons.mp hy with rfl | hy
    · exact ha x hx
    · exact h3 x hx y hy
theorem puts_rising {l : List Str} : ∀ {a : List Str}, a.Pairwise (· < ·) → (l.foldl putS a).Pairwise (· < ·) := by
  induction l with
  | nil => intro a h; exact h
  | cons x l ih => intro a h; exact ih (putS_rising h)
theorem puts_mem {l : List Str} {x : Str} : ∀ {a : List Str}, x ∈ l.foldl putS a ↔ x ∈ a ∨ x ∈ l := by
  induction l with
  | nil => intro a; simp
  | cons y l ih =>
    intro a
    rw [List.foldl_cons, ih, putS_mem, List.mem_cons]
    constructor
    · rintro ((h | h) | h)
      · exact .inr (.inl h)
      · exact .inl h
      · exact .inr (.inr h)
    · rintro (h | h | h)
      · exact .inl (.inr h)
      · exact .inl (.inl h)
      · exact .inr h
theorem putS_len {l : List Str} {s : Str} : (putS l s).length ≤ l.length + 1 := by
  unfold putS
  simp only
  split
  · omega
  · have e := congrArg List.length (List.takeWhile_append_dropWhile (p := fun x => decide (x < s)) (l := l))
    rw [List.length_append] at e
    rw [List.length_append, List.length_cons]; omega
theorem puts_len (l : List Str) : ∀ a : List Str, (l.foldl putS a).length ≤ l.length + a.length := by
  induction l with
  | nil => intro a; simp
  | cons x l ih =>
    intro a
    have h1 := ih (putS a x)
    have h2 := @putS_len a x
    rw [List.foldl_cons, List.length_cons]; omega
theorem puts_ends {keys : List Str} (hk : areKeys keys = true) : ((nodesOf keys).filter keys.contains).foldl putS [] = keys := by
  refine rising_ext (puts_rising List.Pairwise.nil) (areKeys_sorted hk) fun x => ?_
  rw [puts_mem, ends_mem hk]; simp

/-! ### what a trie is -/

/-- The text of a trie, out of its struct. -/
structure TrieT where
  n : Int
  ws : List Int
  m : Int
  es : List Int
  lb : Str

def TrieIs (T : TrieT) (keys : List Str) : Prop := areKeys keys = true ∧ ∃ w e, T = ⟨(shapeOf (children (nodesOf keys)) (nodesOf keys)).length, w.map Int.ofNat, (endsOf keys (nodesOf keys)).length, e.map Int.ofNat, labelsOf (nodesOf keys)⟩ ∧
  BitsAre w (shapeOf (children (nodesOf keys)) (nodesOf keys)) ∧ BitsAre e (endsOf keys (nodesOf keys))

open Classical in
noncomputable def trieV (T : TrieT) : Option (List Str) := if h : ∃ keys, TrieIs T keys then some h.choose else none
end Go.AE
