/- Marks that a law leaves in lists, and looks for again; no condition. The laws of a trie that answer with a list of keys; no condition. -/
import Derived.Test.YtiklnoodcgippaaGreatTrc
set_option linter.unusedSimpArgs false
set_option linter.unusedVariables false
set_option linter.unusedSectionVars false
set_option linter.unusedVariables false
set_option linter.unusedSimpArgs false
namespace Go.AE
variable {H : AH}

theorem KpX.refl {x : Option Nat} {H : AH} : KpX x H H := ⟨rfl, Nat.le_refl _, fun _ _ _ => rfl⟩
theorem KpX.trans {x : Option Nat} {A B C : AH} (h : KpX x A B) (h' : KpX x B C) : KpX x A C :=
  ⟨h'.1.trans h.1, Nat.le_trans h.2.1 h'.2.1, fun j hj hne => (h'.2.2 j (Nat.lt_of_lt_of_le hj h.2.1) hne).trans (h.2.2 j hj hne)⟩

/-! ### the text of a mark -/

def digs : Nat → Str
  | 0 => []
  | n + 1 => digs ((n + 1) / 10) ++ [UInt8.ofNat (48 + (n + 1) % 10)]
decreasing_by omega
theorem digs_pos {n : Nat} (h : 0 < n) : digs n = digs (n / 10) ++ [UInt8.ofNat (48 + n % 10)] := by
  cases n with
  | zero => omega
  | succ n => rw [digs]
theorem digs_len {n : Nat} : (digs n).length ≤ n := by
  induction n using Nat.strongRecOn with
  | _ n ih =>
    by_cases h : 0 < n
    · rw [digs_pos h, List.length_append]
      have := ih (n / 10) (by omega)
      simp; omega
    · obtain rfl : n = 0 := by omega
      simp [digs]
def markS (k : Nat) : Str := if k = 0 then [109, 48] else [109] ++ digs k
theorem markText_ok {k : Nat} (hk : k ≤ 1099511627776) : ACalls Ez n_l_markText [.int .i64 k] H (Ret (sv (markS k)) H) := by
  refine k_l_markText rfl ?_
  by_cases h0 : k = 0
  · have h1 : decide ((k : Int) ≤ 0) = true := decide_eq_true (by omega)
    simp (disch := first | omega | assumption | (simp only [size_alloc, size_put] <;> omega) | (simp only [RK, Nat.reduceAdd] <;> omega) | fail) only [R1, R, Nat.reduceBEq, Nat.reduceAdd, b_l_markText, h1]
    refine ⟨?_, Kp.refl⟩
    rw [markS, if_pos h0]
  have h1 : decide ((k : Int) ≤ 0) = false := decide_eq_false (by omega)
  simp (disch := first | omega | assumption | (simp only [size_alloc, size_put] <;> omega) | (simp only [RK, Nat.reduceAdd] <;> omega) | fail) only [R1, R, Nat.reduceBEq, Nat.reduceAdd, b_l_markText, h1]
  refine AWP_upS (fun j t H' => Kp H H' ∧ ∃ (m : Nat) (out : Str), m + j ≤ k ∧ out.length = j ∧ t 0 = .int .i64 m ∧ t 3 = sv out ∧ digs m ++ out = digs k) k ⟨Kp.refl, k, [], by omega, rfl, rfl, rfl, by simp⟩ ?_
  rintro j t H1 hj hT ⟨hK, m, out, hm, ho, h0', h3, hd⟩
  simp (disch := first | omega | assumption | (simp only [size_alloc, size_put] <;> omega) | (simp only [RK, Nat.reduceAdd] <;> omega) | fail) only [R1, R, Nat.reduceBEq, Nat.reduceAdd, L_l_markText_0, h0']
  refine ACond_split (fun h => ?_) (fun h => ?_)
  · simp only [decide_eq_true_eq] at h
    have hm0 : 0 < m := by omega
    have e3 : (48 + (m : Int) % 10) = (UInt8.ofNat (48 + m % 10)).toNat := by
      rw [UInt8.toNat_ofNat']; omega
    have e4 : opBytesToStr (.slice (some ⟨H1.size, 0, none⟩) 1 1) (H1.alloc ⟨[.int .u8 (48 + (m : Int) % 10)], 1⟩) = some (sv [UInt8.ofNat (48 + m % 10)]) := by
      rw [e3]; exact b2s_one
    have e5 : ∀ {kd : Nat} {c : Bool}, opBin kd c .add (sv [UInt8.ofNat (48 + m % 10)]) (sv out) = some (sv ([UInt8.ofNat (48 + m % 10)] ++ out)) := fun {kd c} => str_add (by simp; omega)
    simp (disch := first | omega | assumption | (simp only [size_alloc, size_put] <;> omega) | (simp only [RK, Nat.reduceAdd] <;> omega) | fail) only [R1, R, Nat.reduceBEq, Nat.reduceAdd, h0', h3, e4, e5]
    refine ⟨by omega, hK.alloc, m / 10, _, ?_, ?_, by congr 1, rfl, ?_⟩
    · omega
    · simp; omega
    · rw [← hd, digs_pos hm0]; simp
  · simp only [decide_eq_false_iff_not] at h
    obtain rfl : m = 0 := by omega
    have ho2 : out = digs k := by simpa [digs] using hd
    have hl := @digs_len k
    subst ho2
    have e5 : ∀ {kd : Nat} {c : Bool}, opBin kd c .add (sv [109]) (sv (digs k)) = some (sv ([109] ++ digs k)) := fun {kd c} => str_add (by simp; omega)
    simp (disch := first | omega | assumption | (simp only [size_alloc, size_put] <;> omega) | (simp only [RK, Nat.reduceAdd] <;> omega) | fail) only [R1, R, Nat.reduceBEq, Nat.reduceAdd, h3, e5]
    refine ⟨?_, hK⟩
    rw [markS, if_neg h0]

/-! ### marks -/

theorem markIntS_ok {v : Value} {ws : List Int} {k : Nat} (hS : Ints H v ws) (hlo : ∀ b, blkOf v = some b → H.lo ≤ b) (hl : ws.length ≤ 1099511627776) (hk : k ≤ 1125899906842624) :
    ACalls Ez n_l_markIntS [v, .int .i64 k] H (fun v' H' => v' = .int .i64 (k + ws.length : Nat) ∧ KpX (blkOf v) H H') := by
  refine k_l_markIntS rfl ?_
  simp (disch := first | omega | assumption | (simp only [size_alloc, size_put] <;> omega) | (simp only [RK, Nat.reduceAdd] <;> omega) | fail) only [R1, R, Nat.reduceBEq, Nat.reduceAdd, b_l_markIntS]
  refine AWP_upS (fun j t H' => j ≤ ws.length ∧ t 5 = .int .i64 j ∧ t 1 = .int .i64 (k + j : Nat) ∧ KpX (blkOf v) H H' ∧ ∃ us : List Int, us.length = ws.length ∧ Ints H' v us) ws.length ⟨by omega, rfl, rfl, KpX.refl, ws, rfl, hS⟩ ?_
  rintro j t H1 hj hT ⟨_, h5, h1, hK, us, hul, hU⟩
  have h0 : t 0 = v := hT 0 rfl
  simp (disch := first | omega | assumption | (simp only [size_alloc, size_put] <;> omega) | (simp only [RK, Nat.reduceAdd] <;> omega) | fail) only [R1, R, Nat.reduceBEq, Nat.reduceAdd, L_l_markIntS_0, h0, h5, hU.r]
  refine ACond_split (fun h => ?_) (fun h => ?_)
  · simp only [decide_eq_true_eq, Int.ofNat_lt] at h
    have hst : opStore 1 (elt 1 v j) (.int .i64 (k + j : Nat)) H1 = some (stH H1 v j (.int .i64 (k + j : Nat))) := hU.st (fun b hb => by rw [hK.1]; exact hlo b hb) h rfl rfl
    have hs1 : Ints (stH H1 v j (.int .i64 (k + j : Nat))) v (us.set j (k + j : Nat)) := hU.set h
    simp (disch := first | omega | assumption | (simp only [size_alloc, size_put] <;> omega) | (simp only [RK, Nat.reduceAdd] <;> omega) | fail) only [R1, R, Nat.reduceBEq, Nat.reduceAdd, h0, h1, h5, hU.r, hst]
    refine ⟨by omega, by omega, by congr 1, by congr 1, hK.trans stH_kpx, _, ?_, hs1⟩
    rw [List.length_set]; exact hul
  · simp only [decide_eq_false_iff_not, Int.ofNat_lt] at h
    have hje : j = ws.length := by omega
    subst hje
    simp (disch := first | omega | assumption | (simp only [size_alloc, size_put] <;> omega) | (simp only [RK, Nat.reduceAdd] <;> omega) | fail) only [R1, R, Nat.reduceBEq, Nat.reduceAdd, h1]
    exact ⟨trivial, hK⟩

theorem markBits_ok {v : Value} {ws : List Int} {n : Int} {k : Nat} (hL : Wf H) (hS : Ints H v ws) (hlo : ∀ b, blkOf v = some b → H.lo ≤ b) (hl : ws.length ≤ 1099511627776) (hk : k ≤ 1125899906842624) :
    ACalls Ez n_l_markBits [.agg #[.int .i64 n, v], .int .i64 k] H (fun v' H' => v' = .int .i64 (k + ws.length : Nat) ∧ KpX (blkOf v) H H') := by
  refine k_l_markBits rfl ?_
  have hKA : Kp H (H.alloc ⟨[.int .i64 n, v], 0⟩) := Kp.refl.alloc
  simp (disch := first | omega | assumption | (simp only [size_alloc, size_put] <;> omega) | (simp only [RK, Nat.reduceAdd] <;> omega) | fail) only [R1, R, Nat.reduceBEq, Nat.reduceAdd, b_l_markBits]
  refine (markIntS_ok (hS.kp hKA) (by rw [hKA.lo]; exact hlo) hl hk).imp ?_
  rintro v' H1 ⟨rfl, hX⟩
  simp (disch := first | omega | assumption | (simp only [size_alloc, size_put] <;> omega) | (simp only [RK, Nat.reduceAdd] <;> omega) | fail) only [R1, R, Nat.reduceBEq, Nat.reduceAdd]
  exact ⟨trivial, (KpX.of hKA).trans hX⟩
/-- Two blocks may have turned, no other. -/
def KpX2 (x y : Option Nat) (H H' : AH) : Prop := H'.lo = H.lo ∧ H.size ≤ H'.size ∧ ∀ i, i < H.size → x ≠ some i → y ≠ some i → H'.get i = H.get i
theorem KpX2.base {x y : Option Nat} {A H H' : AH} (h : KpX2 x y H H') (hA : Kp A H) (hx : ∀ i, x = some i → A.size ≤ i) (hy : ∀ i, y = some i → A.size ≤ i) : Kp A H' :=
  ⟨h.1.trans hA.1, Nat.le_trans hA.2.1 h.2.1, fun i hi => (h.2.2 i (Nat.lt_of_lt_of_le hi hA.2.1) (fun he => absurd (hx i he) (by omega)) (fun he => absurd (hy i he) (by omega))).trans (hA.2.2 i hi)⟩
theorem markTrie_ok {n0 : Nat} {T : TrieT} {u1 u2 : Value} {k : Nat} (hL : Wf H) (hs : Sep n0 H [.own (Value.int .i64) u1 T.ws, .own (Value.int .i64) u2 T.es]) (hn : H.lo ≤ n0) (hw : T.ws.length ≤ 1099511627776) (he : T.es.length ≤ 1099511627776) (hk : k ≤ 1048576) :
    ACalls Ez n_l_markTrie [.agg #[.int .i64 T.n, u1, .int .i64 T.m, u2, sv T.lb], .int .i64 k] H (fun v' H' => v' = .int .i64 (k + T.ws.length + T.es.length : Nat) ∧ KpX2 (blkOf u1) (blkOf u2) H H') := by
  refine k_l_markTrie rfl ?_
  have hwf : H.lo ≤ H.size := hL
  have i1 : Ints H u1 T.ws := hs.get 0 rfl
  have i2 : Ints H u2 T.es := hs.get 1 rfl
  have hdj : ∀ b, blkOf u1 = some b → blkOf u2 ≠ some b := (List.pairwise_cons.mp hs.dj).1 _ (.head _)
  have g1 : ∀ b, blkOf u1 = some b → n0 ≤ b := hs.ge _ (.head _)
  have g2 : ∀ b, blkOf u2 = some b → n0 ≤ b := hs.ge _ (.tail _ (.head _))
  generalize hHA : H.alloc ⟨[.int .i64 T.n, u1, .int .i64 T.m, u2, sv T.lb], 0⟩ = HA
  have hKA : Kp H HA := by rw [← hHA]; exact Kp.refl.alloc
  have hg : HA.get H.size = some ⟨trieC T u1 u2, 0⟩ := by rw [← hHA]; exact get_alloc_self rfl
  have hld := trie_ld hg
  simp (disch := first | omega | assumption | (simp only [size_alloc, size_put] <;> omega) | (simp only [RK, Nat.reduceAdd] <;> omega) | fail) only [R1, R, Nat.reduceBEq, Nat.reduceAdd, b_l_markTrie, hHA, hld]
  refine (markBits_ok (hKA.wf hL) (i1.kp hKA) (by rw [hKA.lo]; exact fun b hb => Nat.le_trans hn (g1 b hb)) hw (by omega)).imp ?_
  rintro v' H1 ⟨rfl, hX1⟩
  have hne : blkOf u1 ≠ some H.size := fun h => Nat.lt_irrefl _ (SlC.lt i1 h)
  have hg1 : H1.get H.size = some ⟨trieC T u1 u2, 0⟩ := by rw [hX1.2.2 H.size (get_lt hg) hne]; exact hg
  have hld1 := trie_ld hg1
  have i2' : Ints H1 u2 T.es := SlC.app (i2.kp hKA) hX1 fun b hb h => hdj b h hb
  have hL1 : Wf H1 := by unfold Wf; rw [hX1.1]; exact Nat.le_trans (hKA.wf hL) hX1.2.1
  simp (disch := first | omega | assumption | (simp only [size_alloc, size_put] <;> omega) | (simp only [RK, Nat.reduceAdd] <;> omega) | fail) only [R1, R, Nat.reduceBEq, Nat.reduceAdd, hld1]
  refine (markBits_ok hL1 i2' (by rw [hX1.1, hKA.lo]; exact fun b hb => Nat.le_trans hn (g2 b hb)) he (by omega)).imp ?_
  rintro v' H2 ⟨rfl, hX2⟩
  simp (disch := first | omega | assumption | (simp only [size_alloc, size_put] <;> omega) | (simp only [RK, Nat.reduceAdd] <;> omega) | fail) only [R1, R, Nat.reduceBEq, Nat.reduceAdd]
  refine ⟨trivial, hX2.1.trans (hX1.1.trans hKA.lo), Nat.le_trans hKA.size (Nat.le_trans hX1.2.1 hX2.2.1), fun i hi ha hb => ?_⟩
  have hi1 : i < HA.size := Nat.lt_of_lt_of_le hi hKA.size
  rw [hX2.2.2 i (Nat.lt_of_lt_of_le hi1 hX1.2.1) hb, hX1.2.2 i hi1 ha, hKA.2.2 i hi]

def marks (k n : Nat) : List Str := (List.range n).map fun i => markS (k + i)
theorem marks_len {k n : Nat} : (marks k n).length = n := by simp [marks]
theorem marks_at {k n i : Nat} (h : i < n) : (marks k n).getD i default = markS (k + i) := by
  simp [marks, List.getD, List.getElem?_map, List.getElem?_range h]
theorem marks_of {k : Nat} {us : List Str} (h : ∀ i, i < us.length → us.getD i default = markS (k + i)) : us = marks k us.length := by
  refine List.ext_getElem marks_len.symm fun i h1 h2 => ?_
  have := h i h1
  rw [getD_eq h1] at this
  rw [this]; simp [marks]
theorem markStringS_ok {v : Value} {l : List Str} {k : Nat} (hS : Strs H v l) (hlo : ∀ b, blkOf v = some b → H.lo ≤ b) (hl : l.length ≤ 1048576) (hk : k ≤ 1048576) :
    ACalls Ez n_l_markStringS [v, .int .i64 k] H (fun v' H' => v' = .int .i64 (k + l.length : Nat) ∧ KpX (blkOf v) H H' ∧ Strs H' v (marks k l.length)) := by
  refine k_l_markStringS rfl ?_
  simp (disch := first | omega | assumption | (simp only [size_alloc, size_put] <;> omega) | (simp only [RK, Nat.reduceAdd] <;> omega) | fail) only [R1, R, Nat.reduceBEq, Nat.reduceAdd, b_l_markStringS]
  refine AWP_upS (fun j t H' => j ≤ l.length ∧ t 5 = .int .i64 j ∧ t 1 = .int .i64 (k + j : Nat) ∧ KpX (blkOf v) H H' ∧ ∃ us : List Str, us.length = l.length ∧ Strs H' v us ∧ ∀ i, i < j → us.getD i default = markS (k + i)) l.length ⟨by omega, rfl, rfl, KpX.refl, l, rfl, hS, by omega⟩ ?_
  rintro j t H1 hj hT ⟨_, h5, h1, hK, us, hul, hU, hI⟩
  have h0 : t 0 = v := hT 0 rfl
  simp (disch := first | omega | assumption | (simp only [size_alloc, size_put] <;> omega) | (simp only [RK, Nat.reduceAdd] <;> omega) | fail) only [R1, R, Nat.reduceBEq, Nat.reduceAdd, L_l_markStringS_0, h0, h5, hU.r]
  refine ACond_split (fun h => ?_) (fun h => ?_)
  · simp only [decide_eq_true_eq, Int.ofNat_lt] at h
    simp (disch := first | omega | assumption | (simp only [size_alloc, size_put] <;> omega) | (simp only [RK, Nat.reduceAdd] <;> omega) | fail) only [R1, R, Nat.reduceBEq, Nat.reduceAdd, h0, h1, h5, hU.r]
    refine (markText_ok (k := k + j) (by omega)).ret fun H2 hK2 => ?_
    have hU2 := hU.kp hK2
    have hst : opStore 1 (elt 1 v j) (sv (markS (k + j))) H2 = some (stH H2 v j (sv (markS (k + j)))) := hU2.st (fun b hb => by rw [hK2.lo, hK.1]; exact hlo b hb) h rfl rfl
    have hs1 : Strs (stH H2 v j (sv (markS (k + j)))) v (us.set j (markS (k + j))) := hU2.set h
    simp (disch := first | omega | assumption | (simp only [size_alloc, size_put] <;> omega) | (simp only [RK, Nat.reduceAdd] <;> omega) | fail) only [R1, R, Nat.reduceBEq, Nat.reduceAdd, h0, h1, h5, hU2.r, hst]
    refine ⟨by omega, by omega, by congr 1, by congr 1, hK.trans ((KpX.of hK2).trans stH_kpx), _, ?_, hs1, fun i hi => ?_⟩
    · rw [List.length_set]; exact hul
    · simp only [List.getD, List.getElem?_set]
      by_cases he : j = i
      · subst he; rw [if_pos rfl, if_pos (by omega)]; rfl
      · rw [if_neg he]; exact hI i (by omega)
  · simp only [decide_eq_false_iff_not, Int.ofNat_lt] at h
    have hje : j = us.length := by omega
    subst hje
    have e := marks_of (k := k) (us := us) hI
    simp (disch := first | omega | assumption | (simp only [size_alloc, size_put] <;> omega) | (simp only [RK, Nat.reduceAdd] <;> omega) | fail) only [R1, R, Nat.reduceBEq, Nat.reduceAdd, h1]
    refine ⟨by rw [hul], hK, ?_⟩
    rw [← hul, ← e]; exact hU
theorem heldStringS_ok {v : Value} {k n : Nat} (hS : Strs H v (marks k n)) (hn : n ≤ 1048576) (hk : k ≤ 1048576) :
    ACalls Ez n_l_heldStringS [v, .int .i64 k] H (Ret (.int .i64 (k + n : Nat)) H) := by
  refine k_l_heldStringS rfl ?_
  simp (disch := first | omega | assumption | (simp only [size_alloc, size_put] <;> omega) | (simp only [RK, Nat.reduceAdd] <;> omega) | fail) only [R1, R, Nat.reduceBEq, Nat.reduceAdd, b_l_heldStringS]
  refine AWP_upS (fun j t H' => j ≤ n ∧ t 5 = .int .i64 j ∧ t 1 = .int .i64 (k + j : Nat) ∧ Kp H H') n ⟨by omega, rfl, rfl, Kp.refl⟩ ?_
  rintro j t H1 hj hT ⟨_, h5, h1, hK⟩
  have h0 : t 0 = v := hT 0 rfl
  have hU := hS.kp hK
  have hml := @marks_len k n
  simp (disch := first | omega | assumption | (simp only [size_alloc, size_put] <;> omega) | (simp only [RK, Nat.reduceAdd] <;> omega) | fail) only [R1, R, Nat.reduceBEq, Nat.reduceAdd, L_l_heldStringS_0, h0, h5, hU.r, hml]
  refine ACond_split (fun h => ?_) (fun h => ?_)
  · simp only [decide_eq_true_eq, Int.ofNat_lt] at h
    obtain ⟨b, o, c, hv, hb⟩ : ∃ b o c, v = .slice (some ⟨b, o, none⟩) n c ∧ b < H1.size := by
      have := hU
      obtain ⟨_, h | ⟨b, o, c, blk, h1, h2, h3, h4⟩⟩ := this
      · omega
      · exact ⟨b, o, c, by rw [h1, hml], get_lt h3⟩
    simp (disch := first | omega | assumption | (simp only [size_alloc, size_put] <;> omega) | (simp only [RK, Nat.reduceAdd] <;> omega) | fail) only [R1, R, Nat.reduceBEq, Nat.reduceAdd, h0, h1, h5, hU.r, hml, marks_at h]
    refine (markText_ok (k := k + j) (by omega)).ret fun H2 hK2 => ?_
    simp (disch := first | omega | assumption | (simp only [size_alloc, size_put] <;> omega) | (simp only [RK, Nat.reduceAdd] <;> omega) | fail) only [R1, R, Nat.reduceBEq, Nat.reduceAdd]
    refine ADr_fin (ck_cons (ck_load rfl rfl rfl rfl (by rw [hv]; rfl) (kp_same hK2 hb)) ck_nil) ?_
    simp (disch := first | omega | assumption | (simp only [size_alloc, size_put] <;> omega) | (simp only [RK, Nat.reduceAdd] <;> omega) | fail) only [R1, R, Nat.reduceBEq, Nat.reduceAdd, h1, h5, decide_true]
    exact ⟨by omega, by omega, by congr 1, by congr 1, hK.trans hK2⟩
  · simp only [decide_eq_false_iff_not, Int.ofNat_lt] at h
    obtain rfl : j = n := by omega
    simp (disch := first | omega | assumption | (simp only [size_alloc, size_put] <;> omega) | (simp only [RK, Nat.reduceAdd] <;> omega) | fail) only [R1, R, Nat.reduceBEq, Nat.reduceAdd, h1]
    exact ⟨rfl, hK⟩
theorem eqStringS_ok {v u : Value} {a b : List Str} (hv : Strs H v a) (hu : Strs H u b) (hl : a.length ≤ 1099511627776) : ACalls Ez n_l_eqStringS [v, u] H (Is (.bool (a == b)) H) := by
  refine k_l_eqStringS rfl ?_
  have hlv := hv.len
  have hlu := hu.len
  simp (disch := first | omega | assumption | (simp only [size_alloc, size_put] <;> omega) | (simp only [RK, Nat.reduceAdd] <;> omega) | fail) only [R1, R, Nat.reduceBEq, Nat.reduceAdd, b_l_eqStringS, hlv, hlu]
  cases hne : decide ((a.length : Int) = b.length) with
  | false =>
    simp only [decide_eq_false_iff_not] at hne
    simp (disch := first | omega | assumption | (simp only [size_alloc, size_put] <;> omega) | (simp only [RK, Nat.reduceAdd] <;> omega) | fail) only [R1, R, Nat.reduceBEq, Nat.reduceAdd]
    refine .mk ?_
    have : ¬ a = b := by rintro rfl; exact hne rfl
    rw [beq_eq_false_iff_ne.mpr this]
  | true =>
  simp only [decide_eq_true_eq] at hne
  have hlen : a.length = b.length := by omega
  simp (disch := first | omega | assumption | (simp only [size_alloc, size_put] <;> omega) | (simp only [RK, Nat.reduceAdd] <;> omega) | fail) only [R1, R, Nat.reduceBEq, Nat.reduceAdd]
  refine AWP_upS (fun k t H' => t 5 = .int .i64 k ∧ k ≤ a.length ∧ H' = H ∧ ∀ j, j < k → a.getD j default = b.getD j default) a.length ⟨rfl, Nat.zero_le _, rfl, by omega⟩ ?_
  rintro k t H' _ hT ⟨h5, hk, rfl, hI⟩
  have h0 : t 0 = v := hT 0 rfl
  have h1 : t 1 = u := hT 1 rfl
  simp (disch := first | omega | assumption | (simp only [size_alloc, size_put] <;> omega) | (simp only [RK, Nat.reduceAdd] <;> omega) | fail) only [R1, R, Nat.reduceBEq, Nat.reduceAdd, L_l_eqStringS_0, h0, h5, hv.r]
  refine ACond_split (fun hc => ?_) (fun hc => ?_)
  · simp only [decide_eq_true_eq, Int.ofNat_lt] at hc
    simp (disch := first | omega | assumption | (simp only [size_alloc, size_put] <;> omega) | (simp only [RK, Nat.reduceAdd] <;> omega) | fail) only [R1, R, Nat.reduceBEq, Nat.reduceAdd, h0, h1, h5, hv.r, hu.r]
    cases hd : decide (a.getD k default = b.getD k default) with
    | false =>
      simp only [decide_eq_false_iff_not] at hd
      simp (disch := first | omega | assumption | (simp only [size_alloc, size_put] <;> omega) | (simp only [RK, Nat.reduceAdd] <;> omega) | fail) only [R1, R, Nat.reduceBEq, Nat.reduceAdd]
      refine .mk ?_
      have : ¬ a = b := by rintro rfl; exact hd rfl
      rw [beq_eq_false_iff_ne.mpr this]
    | true =>
      simp only [decide_eq_true_eq] at hd
      simp (disch := first | omega | assumption | (simp only [size_alloc, size_put] <;> omega) | (simp only [RK, Nat.reduceAdd] <;> omega) | fail) only [R1, R, Nat.reduceBEq, Nat.reduceAdd, h5]
      exact ⟨hc, by congr 1, hc, trivial, lt_succ_all hI hd⟩
  · simp only [decide_eq_false_iff_not, Int.ofNat_lt] at hc
    simp (disch := first | omega | assumption | (simp only [size_alloc, size_put] <;> omega) | (simp only [RK, Nat.reduceAdd] <;> omega) | fail) only [R1, R, Nat.reduceBEq, Nat.reduceAdd]
    refine .mk ?_
    have : a = b := by
      refine List.ext_getElem hlen fun i h1 h2 => ?_
      have := hI i (by omega)
      rwa [getD_eq h1, getD_eq h2] at this
    rw [this]; simp
end Go.AE
set_option linter.unusedVariables false
set_option linter.unusedSimpArgs false
namespace Go.AE
variable {H : AH}

/-- A list that the program made, and whether there is one. -/
def ListI (H : AH) (r : List Str × Bool) : CPost := fun v' H' => Kp H H' ∧ ∃ w, v' = .tuple #[w, .bool r.2] ∧ Own sv H.size H' w r.1
/-- A list that the specification tells. -/
def ListS (H : AH) (r : List Str × Bool) : CPost := fun v' H' => Kp H H' ∧ ∃ w, v' = .tuple #[w, .bool r.2] ∧ Strs H' w r.1 ∧ r.1.length ≤ 40

noncomputable def lTrieKeys (T : TrieT) : List Str × Bool := match trieV T with | some keys => (keys, true) | none => ([], false)
theorem iTrieKeys_ok {T : TrieT} {v1 v2 : Value} (hL : Wf H) (hT : TrieAt H T v1 v2) :
    ACalls Ez n_i_TrieKeys [.agg #[.int .i64 T.n, v1, .int .i64 T.m, v2, sv T.lb]] H (ListI H (lTrieKeys T)) := by
  refine k_i_TrieKeys rfl ?_
  generalize hHA : H.alloc ⟨[.int .i64 T.n, v1, .int .i64 T.m, v2, sv T.lb], 0⟩ = HA
  have hKA : Kp H HA := by rw [← hHA]; exact Kp.refl.alloc
  have hg : HA.get H.size = some ⟨trieC T v1 v2, 0⟩ := by rw [← hHA]; exact get_alloc_self rfl
  simp (disch := first | omega | assumption | (simp only [size_alloc, size_put] <;> omega) | (simp only [RK, Nat.reduceAdd] <;> omega) | fail) only [R1, R, Nat.reduceBEq, Nat.reduceAdd, b_i_TrieKeys, hHA]
  refine (keys_ok (hKA.wf hL) hg (hT.kp hKA)).imp ?_
  rintro v' H1 ⟨hK1, hm⟩
  unfold lTrieKeys
  cases hv : trieV T with
  | none =>
    rw [hv] at hm
    subst hm
    simp (disch := first | omega | assumption | (simp only [size_alloc, size_put] <;> omega) | (simp only [RK, Nat.reduceAdd] <;> omega) | fail) only [R1, R, Nat.reduceBEq, Nat.reduceAdd]
    exact ⟨hKA.trans hK1, _, rfl, Own.nil⟩
  | some keys =>
    rw [hv] at hm
    obtain ⟨w, rfl, hO⟩ := hm
    simp (disch := first | omega | assumption | (simp only [size_alloc, size_put] <;> omega) | (simp only [RK, Nat.reduceAdd] <;> omega) | fail) only [R1, R, Nat.reduceBEq, Nat.reduceAdd]
    exact ⟨hKA.trans hK1, w, rfl, hO.to hKA.size⟩
theorem sTrieKeys_ok {T : TrieT} {v1 v2 : Value} (hL : Wf H) (hT : TrieAt H T v1 v2) :
    ACalls Ez n_s_TrieKeys [.agg #[.int .i64 T.n, v1, .int .i64 T.m, v2, sv T.lb]] H (ListS H (lTrieKeys T)) := by
  refine k_s_TrieKeys rfl ?_
  generalize hHA : H.alloc ⟨[.int .i64 T.n, v1, .int .i64 T.m, v2, sv T.lb], 0⟩ = HA
  have hKA : Kp H HA := by rw [← hHA]; exact Kp.refl.alloc
  have hg : HA.get H.size = some ⟨trieC T v1 v2, 0⟩ := by rw [← hHA]; exact get_alloc_self rfl
  have hld := trie_ld hg
  simp (disch := first | omega | assumption | (simp only [size_alloc, size_put] <;> omega) | (simp only [RK, Nat.reduceAdd] <;> omega) | fail) only [R1, R, Nat.reduceBEq, Nat.reduceAdd, b_s_TrieKeys, hHA, hld]
  refine (trKeys_ok (hKA.wf hL) (hT.kp hKA)).imp ?_
  rintro v' H1 ⟨hK1, hm⟩
  unfold lTrieKeys
  cases hv : trieV T with
  | none =>
    rw [hv] at hm
    obtain ⟨w, rfl⟩ := hm
    simp (disch := first | omega | assumption | (simp only [size_alloc, size_put] <;> omega) | (simp only [RK, Nat.reduceAdd] <;> omega) | fail) only [R1, R, Nat.reduceBEq, Nat.reduceAdd]
    exact ⟨hKA.trans hK1, _, rfl, .nil, by simp⟩
  | some keys =>
    rw [hv] at hm
    obtain ⟨w, rfl, hS⟩ := hm
    have hkl := areKeys_len (trieV_some.mp hv).1
    simp (disch := first | omega | assumption | (simp only [size_alloc, size_put] <;> omega) | (simp only [RK, Nat.reduceAdd] <;> omega) | fail) only [R1, R, Nat.reduceBEq, Nat.reduceAdd]
    exact ⟨hKA.trans hK1, w, rfl, hS, hkl.1⟩

/-! ### keys that begin so -/

theorem filter_take {p : Str → Bool} {l : List Str} {k : Nat} (hk : k < l.length) : (l.take (k + 1)).filter p = (l.take k).filter p ++ if p (l.getD k default) = true then [l.getD k default] else [] := by
  rw [take_succ_getD hk, List.filter_append]; congr 1
  by_cases h : p (l.getD k default) = true
  · rw [if_pos h, List.filter_cons_of_pos h, List.filter_nil]
  · rw [if_neg h, List.filter_cons_of_neg h, List.filter_nil]
theorem filter_take_len {p : Str → Bool} {l : List Str} {k : Nat} : ((l.take k).filter p).length ≤ k := Nat.le_trans (List.length_filter_le _ _) (by rw [List.length_take]; omega)
theorem beginning_ok {v : Value} {l : List Str} {s : Str} (hL : Wf H) (hS : Strs H v l) (hl : l.length ≤ 40) :
    ACalls Ez n_i_beginning [v, sv s] H (fun v' H' => Own sv H.size H' v' (l.filter fun x => begins x s) ∧ Kp H H') := by
  refine k_i_beginning rfl ?_
  have hwf : H.lo ≤ H.size := hL
  simp (disch := first | omega | assumption | (simp only [size_alloc, size_put] <;> omega) | (simp only [RK, Nat.reduceAdd] <;> omega) | fail) only [R1, R, Nat.reduceBEq, Nat.reduceAdd, b_i_beginning, hS.r]
  refine AWP_for l.length (fun k t H' => ∃ u, t 5 = u ∧ Kp H H' ∧ Own sv H.size H' u ((l.take k).filter fun x => begins x s)) rfl rfl (by omega) ⟨_, rfl, Kp.refl.alloc, .zero (Nat.le_refl _)⟩ rfl ?_ ?_
  · rintro k t H2 hkk hi hn hT ⟨u, h5, hK, hO⟩
    have h9 : t 9 = v := hT 9 rfl
    have h1 : t 1 = sv s := hT 1 rfl
    have hfl := @filter_take_len (fun x => begins x s) l k
    simp (disch := first | omega | assumption | (simp only [size_alloc, size_put] <;> omega) | (simp only [RK, Nat.reduceAdd] <;> omega) | fail) only [R1, R, Nat.reduceBEq, Nat.reduceAdd, L_i_beginning_0, hi, h9, h1, (hS.kp hK).r, HasPrefix_eq]
    refine ACond_split (fun h => ?_) (fun h => ?_)
    · obtain ⟨u', H3, e2, hO3, hX, _⟩ := append_1 (bytes := 16) (a := l.getD k default) hO (by rw [hK.lo]; exact hwf) (fun _ => sv_one) (by omega) hK.size
      simp (disch := first | omega | assumption | (simp only [size_alloc, size_put] <;> omega) | (simp only [RK, Nat.reduceAdd] <;> omega) | fail) only [R1, R, Nat.reduceBEq, Nat.reduceAdd, h5, e2]
      refine ⟨_, rfl, hK.app hX hO.2, ?_⟩
      rw [filter_take hkk, if_pos h]; exact hO3
    · simp (disch := first | omega | assumption | (simp only [size_alloc, size_put] <;> omega) | (simp only [RK, Nat.reduceAdd] <;> omega) | fail) only [R1, R, Nat.reduceBEq, Nat.reduceAdd]
      refine ⟨_, h5, hK, ?_⟩
      rw [filter_take hkk, if_neg (by rw [h]; decide), List.append_nil]; exact hO
  · rintro t H2 hi hn hT ⟨u, h5, hK, hO⟩
    rw [List.take_length] at hO
    simp (disch := first | omega | assumption | (simp only [size_alloc, size_put] <;> omega) | (simp only [RK, Nat.reduceAdd] <;> omega) | fail) only [R1, R, Nat.reduceBEq, Nat.reduceAdd, h5]
    exact ⟨hO, hK⟩
noncomputable def lKeysWithPrefix (T : TrieT) (s : Str) : List Str × Bool := match trieV T with | some keys => (keys.filter fun x => begins x s, true) | none => ([], false)
theorem iKeysWithPrefix_ok {T : TrieT} {v1 v2 : Value} {s : Str} (hL : Wf H) (hT : TrieAt H T v1 v2) :
    ACalls Ez n_i_KeysWithPrefix [.agg #[.int .i64 T.n, v1, .int .i64 T.m, v2, sv T.lb], sv s] H (ListI H (lKeysWithPrefix T s)) := by
  refine k_i_KeysWithPrefix rfl ?_
  generalize hHA : H.alloc ⟨[.int .i64 T.n, v1, .int .i64 T.m, v2, sv T.lb], 0⟩ = HA
  have hKA : Kp H HA := by rw [← hHA]; exact Kp.refl.alloc
  have hg : HA.get H.size = some ⟨trieC T v1 v2, 0⟩ := by rw [← hHA]; exact get_alloc_self rfl
  simp (disch := first | omega | assumption | (simp only [size_alloc, size_put] <;> omega) | (simp only [RK, Nat.reduceAdd] <;> omega) | fail) only [R1, R, Nat.reduceBEq, Nat.reduceAdd, b_i_KeysWithPrefix, hHA]
  refine (keys_ok (hKA.wf hL) hg (hT.kp hKA)).imp ?_
  rintro v' H1 ⟨hK1, hm⟩
  unfold lKeysWithPrefix
  cases hv : trieV T with
  | none =>
    rw [hv] at hm
    subst hm
    simp (disch := first | omega | assumption | (simp only [size_alloc, size_put] <;> omega) | (simp only [RK, Nat.reduceAdd] <;> omega) | fail) only [R1, R, Nat.reduceBEq, Nat.reduceAdd]
    exact ⟨hKA.trans hK1, _, rfl, Own.nil⟩
  | some keys =>
    rw [hv] at hm
    obtain ⟨w, rfl, hO⟩ := hm
    have hkl := areKeys_len (trieV_some.mp hv).1
    simp (disch := first | omega | assumption | (simp only [size_alloc, size_put] <;> omega) | (simp only [RK, Nat.reduceAdd] <;> omega) | fail) only [R1, R, Nat.reduceBEq, Nat.reduceAdd]
    refine (beginning_ok ((hKA.trans hK1).wf hL) hO.1 hkl.1).imp ?_
    rintro u H2 ⟨hO2, hK2⟩
    simp (disch := first | omega | assumption | (simp only [size_alloc, size_put] <;> omega) | (simp only [RK, Nat.reduceAdd] <;> omega) | fail) only [R1, R, Nat.reduceBEq, Nat.reduceAdd]
    exact ⟨hKA.trans (hK1.trans hK2), u, rfl, hO2.to (hKA.trans hK1).size⟩
theorem sKeysWithPrefix_ok {T : TrieT} {v1 v2 : Value} {s : Str} (hL : Wf H) (hT : TrieAt H T v1 v2) :
    ACalls Ez n_s_KeysWithPrefix [.agg #[.int .i64 T.n, v1, .int .i64 T.m, v2, sv T.lb], sv s] H (ListS H (lKeysWithPrefix T s)) := by
  refine k_s_KeysWithPrefix rfl ?_
  have hwf : H.lo ≤ H.size := hL
  generalize hHA : H.alloc ⟨[.int .i64 T.n, v1, .int .i64 T.m, v2, sv T.lb], 0⟩ = HA
  have hKA : Kp H HA := by rw [← hHA]; exact Kp.refl.alloc
  have hg : HA.get H.size = some ⟨trieC T v1 v2, 0⟩ := by rw [← hHA]; exact get_alloc_self rfl
  have hld := trie_ld hg
  simp (disch := first | omega | assumption | (simp only [size_alloc, size_put] <;> omega) | (simp only [RK, Nat.reduceAdd] <;> omega) | fail) only [R1, R, Nat.reduceBEq, Nat.reduceAdd, b_s_KeysWithPrefix, hHA, hld]
  refine (trKeys_ok (hKA.wf hL) (hT.kp hKA)).imp ?_
  rintro v' H1 ⟨hK1, hm⟩
  unfold lKeysWithPrefix
  cases hv : trieV T with
  | none =>
    rw [hv] at hm
    obtain ⟨w, rfl⟩ := hm
    simp (disch := first | omega | assumption | (simp only [size_alloc, size_put] <;> omega) | (simp only [RK, Nat.reduceAdd] <;> omega) | fail) only [R1, R, Nat.reduceBEq, Nat.reduceAdd]
    exact ⟨hKA.trans hK1, _, rfl, .nil, by simp⟩
  | some keys =>
    rw [hv] at hm
    obtain ⟨w, rfl, hS⟩ := hm
    have hkl := areKeys_len (trieV_some.mp hv).1
    have hK01 := hKA.trans hK1
    simp (disch := first | omega | assumption | (simp only [size_alloc, size_put] <;> omega) | (simp only [RK, Nat.reduceAdd] <;> omega) | fail) only [R1, R, Nat.reduceBEq, Nat.reduceAdd, hS.r]
    refine AWP_for keys.length (fun k t H' => ∃ u, t 8 = u ∧ Kp H1 H' ∧ Own sv H1.size H' u ((keys.take k).filter fun x => begins x s)) rfl rfl (by omega) ⟨_, rfl, Kp.refl, .nil⟩ rfl ?_ ?_
    · rintro k t H2 hkk hi hn hT' ⟨u, h8, hK, hO⟩
      have h18 : t 18 = w := hT' 18 rfl
      have h1 : t 1 = sv s := hT' 1 rfl
      have hfl := @filter_take_len (fun x => begins x s) keys k
      simp (disch := first | omega | assumption | (simp only [size_alloc, size_put] <;> omega) | (simp only [RK, Nat.reduceAdd] <;> omega) | fail) only [R1, R, Nat.reduceBEq, Nat.reduceAdd, L_s_KeysWithPrefix_0, hi, h18, h1, (hS.kp hK).r, trBegins_eq]
      refine ACond_split (fun h => ?_) (fun h => ?_)
      · obtain ⟨u', H3, e2, hO3, hX, _⟩ := append_1 (bytes := 16) (a := keys.getD k default) hO (by rw [(hK01.trans hK).lo]; exact Nat.le_trans hwf hK01.size) (fun _ => sv_one) (by omega) hK.size
        simp (disch := first | omega | assumption | (simp only [size_alloc, size_put] <;> omega) | (simp only [RK, Nat.reduceAdd] <;> omega) | fail) only [R1, R, Nat.reduceBEq, Nat.reduceAdd, h8, e2]
        refine ⟨_, rfl, hK.app hX hO.2, ?_⟩
        rw [filter_take hkk, if_pos h]; exact hO3
      · simp (disch := first | omega | assumption | (simp only [size_alloc, size_put] <;> omega) | (simp only [RK, Nat.reduceAdd] <;> omega) | fail) only [R1, R, Nat.reduceBEq, Nat.reduceAdd]
        refine ⟨_, h8, hK, ?_⟩
        rw [filter_take hkk, if_neg (by rw [h]; decide), List.append_nil]; exact hO
    · rintro t H2 hi hn hT' ⟨u, h8, hK, hO⟩
      rw [List.take_length] at hO
      simp (disch := first | omega | assumption | (simp only [size_alloc, size_put] <;> omega) | (simp only [RK, Nat.reduceAdd] <;> omega) | fail) only [R1, R, Nat.reduceBEq, Nat.reduceAdd, h8]
      exact ⟨hK01.trans hK, u, rfl, hO.1, Nat.le_trans (List.length_filter_le _ _) hkl.1⟩

/-! ### the laws -/

theorem lawTrieKeys {T : TrieT} {v1 v2 : Value}  (hL : Wf H) (hT0 : TrieIn H T v1 v2) :
    ACalls Ez n_l_FnExactTrieKeys [.agg #[.int .i64 T.n, v1, .int .i64 T.m, v2, sv T.lb]] H (fun v' _ => v' = .bool true) := by
  refine k_l_FnExactTrieKeys rfl ?_
  have hwf : H.lo ≤ H.size := hL
  generalize hHA : H.alloc ⟨[.int .i64 T.n, v1, .int .i64 T.m, v2, sv T.lb], 0⟩ = HA
  have hKA : Kp H HA := by rw [← hHA]; exact Kp.refl.alloc
  have hg : HA.get H.size = some ⟨trieC T v1 v2, 0⟩ := by rw [← hHA]; exact get_alloc_self rfl
  have hld := trie_ld hg
  have hLA := hKA.wf hL
  simp (disch := first | omega | assumption | (simp only [size_alloc, size_put] <;> omega) | (simp only [RK, Nat.reduceAdd] <;> omega) | fail) only [R1, R, Nat.reduceBEq, Nat.reduceAdd, b_l_FnExactTrieKeys, hHA, hld]
  refine (szTrie_ok (hT0.ws.kp hKA) (hT0.es.kp hKA) hT0.wl hT0.el hT0.ll).ret fun H1 hK1 => ?_
  by_cases hsz : szT T 1048576 < 0
  · simp (disch := first | omega | assumption | (simp only [size_alloc, size_put] <;> omega) | (simp only [RK, Nat.reduceAdd] <;> omega) | fail) only [R1, R, Nat.reduceBEq, Nat.reduceAdd, decide_eq_true hsz]
  have hT := hT0.at hsz
  have hTA := hT.kp hKA
  have hld1 := trie_ld (hK1.get hg)
  simp (disch := first | omega | assumption | (simp only [size_alloc, size_put] <;> omega) | (simp only [RK, Nat.reduceAdd] <;> omega) | fail) only [R1, R, Nat.reduceBEq, Nat.reduceAdd, decide_eq_false hsz, hld1]
  refine (toTrie_ok (hK1.wf hLA) (hTA.kp hK1)).imp ?_
  rintro v3 H2 ⟨a1, a2, rfl, hs2, hK2⟩
  have hT2 := CopyT.at hs2 (hTA.kp hK1)
  have hL2 := (hK1.trans hK2).wf hLA
  simp (disch := first | omega | assumption | (simp only [size_alloc, size_put] <;> omega) | (simp only [RK, Nat.reduceAdd] <;> omega) | fail) only [R1, R, Nat.reduceBEq, Nat.reduceAdd]
  refine (sTrieKeys_ok hL2 hT2).imp ?_
  rintro v4 H3 ⟨hK3, want, rfl, hW, hlen⟩
  have hKA3 := hK1.trans (hK2.trans hK3)
  have hld3 := trie_ld (hKA3.get hg)
  simp (disch := first | omega | assumption | (simp only [size_alloc, size_put] <;> omega) | (simp only [RK, Nat.reduceAdd] <;> omega) | fail) only [R1, R, Nat.reduceBEq, Nat.reduceAdd, hld3]
  refine (toTrie_ok (hKA3.wf hLA) (hTA.kp hKA3)).imp ?_
  rintro v5 H4 ⟨b1, b2, rfl, hs4, hK4⟩
  have hT4 := CopyT.at hs4 (hTA.kp hKA3)
  have hKA4 := hKA3.trans hK4
  have hL4 := hKA4.wf hLA
  have ho1 := hT4.ws.one
  have ho2 := hT4.es.one
  have hKB : Kp H4 (H4.alloc ⟨[.int .i64 T.n, b1, .int .i64 T.m, b2, sv T.lb], 0⟩) := Kp.refl.alloc
  generalize hHB : H4.alloc ⟨[.int .i64 T.n, b1, .int .i64 T.m, b2, sv T.lb], 0⟩ = HB at *
  have hgB : HB.get H4.size = some ⟨trieC T b1 b2, 0⟩ := by rw [← hHB]; exact get_alloc_self rfl
  have hldB := trie_ld hgB
  simp (disch := first | omega | assumption | (simp only [size_alloc, size_put] <;> omega) | (simp only [RK, Nat.reduceAdd, ho1.1, ho1.2, ho2.1, ho2.2] <;> omega) | fail) only [R1, R, Nat.reduceBEq, Nat.reduceAdd, store_all, hHB, hldB, ho1.1, ho1.2, ho2.1, ho2.2]
  refine (iTrieKeys_ok (hKB.wf hL4) (hT4.kp hKB)).imp ?_
  rintro v6 H6 ⟨hK6, got, rfl, hO⟩
  have hld6 := trie_ld (hK6.get hgB)
  have hKA6 := hKA4.trans (hKB.trans hK6)
  have hld6' := trie_ld (hKA6.get hg)
  have hK36 : Kp H3 H6 := hK4.trans (hKB.trans hK6)
  simp (disch := first | omega | assumption | (simp only [size_alloc, size_put] <;> omega) | (simp only [RK, Nat.reduceAdd] <;> omega) | fail) only [R1, R, Nat.reduceBEq, Nat.reduceAdd]
  refine (eqStringS_ok hO.1 (hW.kp hK36) (by omega)).is ?_
  simp (disch := first | omega | assumption | (simp only [size_alloc, size_put] <;> omega) | (simp only [RK, Nat.reduceAdd] <;> omega) | fail) only [R1, R, Nat.reduceBEq, Nat.reduceAdd, decide_true, beq_self_eq_true, hld6, hld6']
  refine (toTrie_ok (hKA6.wf hLA) (hTA.kp hKA6)).imp ?_
  rintro v7 H7 ⟨c1, c2, rfl, hs7, hK7⟩
  have hT7 := CopyT.at hs7 (hTA.kp hKA6)
  simp (disch := first | omega | assumption | (simp only [size_alloc, size_put] <;> omega) | (simp only [RK, Nat.reduceAdd] <;> omega) | fail) only [R1, R, Nat.reduceBEq, Nat.reduceAdd]
  refine (eqTrie_ok (hT4.kp (hKB.trans (hK6.trans hK7))) hT7).ret fun H8 hK8 => ?_
  rw [sameT_self]
  simp (disch := first | omega | assumption | (simp only [size_alloc, size_put] <;> omega) | (simp only [RK, Nat.reduceAdd] <;> omega) | fail) only [R1, R, Nat.reduceBEq, Nat.reduceAdd]
  refine ADr_fin (ck_cons (ck_load rfl rfl rfl rfl rfl (kp_same hK7 (get_lt (hK6.get hgB)))) ck_nil) ?_
  have hK68 := hK7.trans hK8
  have hK48 := hKB.trans (hK6.trans hK68)
  have hld8 := trie_ld (hK68.get (hK6.get hgB))
  have hlo3 : H8.lo ≤ H3.size := by
    have e : H8.lo = H.lo := (hKA4.trans hK48).lo.trans hKA.lo
    have := hKA.size; have := hKA3.size; omega
  simp (disch := first | omega | assumption | (simp only [size_alloc, size_put] <;> omega) | (simp only [RK, Nat.reduceAdd] <;> omega) | fail) only [R1, R, Nat.reduceBEq, Nat.reduceAdd, hld8]
  refine (markTrie_ok (k := 1) ((hKA4.trans hK48).wf hLA) (hs4.kp hK48) hlo3 hT.wl hT.el (by omega)).imp ?_
  rintro v8 H9 ⟨rfl, hX⟩
  have g1 : ∀ b, blkOf b1 = some b → H3.size ≤ b := hs4.ge _ (.head _)
  have g2 : ∀ b, blkOf b2 = some b → H3.size ≤ b := hs4.ge _ (.tail _ (.head _))
  have l1 : ∀ b, blkOf b1 = some b → b < H4.size := fun b hb => SlC.lt hT4.ws hb
  have l2 : ∀ b, blkOf b2 = some b → b < H4.size := fun b hb => SlC.lt hT4.es hb
  have hK39 : Kp H3 H9 := hX.base (hK4.trans hK48) g1 g2
  have hO8 := hO.kp hK68
  have hO9 : Own sv HB.size H9 got (lTrieKeys T).1 := by
    refine ⟨SlC.loc hO8.1 fun b hb => ?_, hO8.2⟩
    have e1 := hO8.2 b hb
    have e2 := hKB.size
    exact hX.2.2 b (SlC.lt hO8.1 hb) (fun h => by have := l1 b h; omega) (fun h => by have := l2 b h; omega)
  have hneg : ∀ n : Nat, decide ((n : Int) < 0) = false := fun n => decide_eq_false (by omega)
  simp (disch := first | omega | assumption | (simp only [size_alloc, size_put] <;> omega) | (simp only [RK, Nat.reduceAdd] <;> omega) | fail) only [R1, R, Nat.reduceBEq, Nat.reduceAdd, hneg]
  refine (eqStringS_ok hO9.1 (hW.kp hK39) (by omega)).is ?_
  simp (disch := first | omega | assumption | (simp only [size_alloc, size_put] <;> omega) | (simp only [RK, Nat.reduceAdd] <;> omega) | fail) only [R1, R, Nat.reduceBEq, Nat.reduceAdd, decide_true, beq_self_eq_true]
  have hlo9 : H9.lo ≤ HB.size := by rw [hX.1]; have := hKB.size; have := hK4.size; omega
  refine (markStringS_ok (k := 1) hO9.1 (fun b hb => Nat.le_trans hlo9 (hO9.2 b hb)) (by omega) (by omega)).imp ?_
  rintro v9 H10 ⟨rfl, hX10, hM⟩
  have hge : ∀ b, blkOf got = some b → H3.size ≤ b := fun b hb => by have := hO9.2 b hb; have := hKB.size; have := hK4.size; omega
  have hK310 : Kp H3 H10 := hK39.app hX10 hge
  simp (disch := first | omega | assumption | (simp only [size_alloc, size_put] <;> omega) | (simp only [RK, Nat.reduceAdd] <;> omega) | fail) only [R1, R, Nat.reduceBEq, Nat.reduceAdd]
  refine (heldStringS_ok (k := 1) hM (by omega) (by omega)).ret fun H11 hK11 => ?_
  have hKA11 := hKA3.trans (hK310.trans hK11)
  have hld11 := trie_ld (hKA11.get hg)
  simp (disch := first | omega | assumption | (simp only [size_alloc, size_put] <;> omega) | (simp only [RK, Nat.reduceAdd] <;> omega) | fail) only [R1, R, Nat.reduceBEq, Nat.reduceAdd, hneg, decide_true, hld11]
  refine (toTrie_ok (hKA11.wf hLA) (hTA.kp hKA11)).imp ?_
  rintro v10 H12 ⟨d1, d2, rfl, hs12, hK12⟩
  have hT12 := CopyT.at hs12 (hTA.kp hKA11)
  simp (disch := first | omega | assumption | (simp only [size_alloc, size_put] <;> omega) | (simp only [RK, Nat.reduceAdd] <;> omega) | fail) only [R1, R, Nat.reduceBEq, Nat.reduceAdd]
  refine (iTrieKeys_ok ((hKA11.trans hK12).wf hLA) hT12).imp ?_
  rintro v11 H13 ⟨hK13, got2, rfl, hO13⟩
  have hK313 := hK310.trans (hK11.trans (hK12.trans hK13))
  simp (disch := first | omega | assumption | (simp only [size_alloc, size_put] <;> omega) | (simp only [RK, Nat.reduceAdd] <;> omega) | fail) only [R1, R, Nat.reduceBEq, Nat.reduceAdd]
  refine (eqStringS_ok hO13.1 (hW.kp hK313) (by omega)).is ?_
  simp (disch := first | omega | assumption | (simp only [size_alloc, size_put] <;> omega) | (simp only [RK, Nat.reduceAdd] <;> omega) | fail) only [R1, R, Nat.reduceBEq, Nat.reduceAdd, decide_true, beq_self_eq_true]
  refine (heldStringS_ok (k := 1) (hM.kp (hK11.trans (hK12.trans hK13))) (by omega) (by omega)).ret fun H14 hK14 => ?_
  simp (disch := first | omega | assumption | (simp only [size_alloc, size_put] <;> omega) | (simp only [RK, Nat.reduceAdd] <;> omega) | fail) only [R1, R, Nat.reduceBEq, Nat.reduceAdd, hneg, decide_true]
theorem lawKeysWithPrefix {T : TrieT} {v1 v2 : Value} {s : Str} (hL : Wf H) (hT0 : TrieIn H T v1 v2) :
    ACalls Ez n_l_FnExactKeysWithPrefix [.agg #[.int .i64 T.n, v1, .int .i64 T.m, v2, sv T.lb], sv s] H (fun v' _ => v' = .bool true) := by
  refine k_l_FnExactKeysWithPrefix rfl ?_
  have hwf : H.lo ≤ H.size := hL
  generalize hHA : H.alloc ⟨[.int .i64 T.n, v1, .int .i64 T.m, v2, sv T.lb], 0⟩ = HA
  have hKA : Kp H HA := by rw [← hHA]; exact Kp.refl.alloc
  have hg : HA.get H.size = some ⟨trieC T v1 v2, 0⟩ := by rw [← hHA]; exact get_alloc_self rfl
  have hld := trie_ld hg
  have hLA := hKA.wf hL
  simp (disch := first | omega | assumption | (simp only [size_alloc, size_put] <;> omega) | (simp only [RK, Nat.reduceAdd] <;> omega) | fail) only [R1, R, Nat.reduceBEq, Nat.reduceAdd, b_l_FnExactKeysWithPrefix, hHA, hld]
  cases hgd : decide ((1048576 : Int) < s.length) with
  | true => simp (disch := first | omega | assumption | (simp only [size_alloc, size_put] <;> omega) | (simp only [RK, Nat.reduceAdd] <;> omega) | fail) only [R1, R, Nat.reduceBEq, Nat.reduceAdd]
  | false =>
  simp only [decide_eq_false_iff_not] at hgd
  simp (disch := first | omega | assumption | (simp only [size_alloc, size_put] <;> omega) | (simp only [RK, Nat.reduceAdd] <;> omega) | fail) only [R1, R, Nat.reduceBEq, Nat.reduceAdd, hld]
  refine (szTrie_ok (hT0.ws.kp hKA) (hT0.es.kp hKA) hT0.wl hT0.el hT0.ll).ret fun H1 hK1 => ?_
  by_cases hsz : szT T 1048576 < 0
  · simp (disch := first | omega | assumption | (simp only [size_alloc, size_put] <;> omega) | (simp only [RK, Nat.reduceAdd] <;> omega) | fail) only [R1, R, Nat.reduceBEq, Nat.reduceAdd, decide_eq_true hsz]
  have hT := hT0.at hsz
  have hTA := hT.kp hKA
  have hld1 := trie_ld (hK1.get hg)
  simp (disch := first | omega | assumption | (simp only [size_alloc, size_put] <;> omega) | (simp only [RK, Nat.reduceAdd] <;> omega) | fail) only [R1, R, Nat.reduceBEq, Nat.reduceAdd, decide_eq_false hsz, hld1]
  refine (toTrie_ok (hK1.wf hLA) (hTA.kp hK1)).imp ?_
  rintro v3 H2 ⟨a1, a2, rfl, hs2, hK2⟩
  have hT2 := CopyT.at hs2 (hTA.kp hK1)
  have hL2 := (hK1.trans hK2).wf hLA
  simp (disch := first | omega | assumption | (simp only [size_alloc, size_put] <;> omega) | (simp only [RK, Nat.reduceAdd] <;> omega) | fail) only [R1, R, Nat.reduceBEq, Nat.reduceAdd]
  refine (sKeysWithPrefix_ok hL2 hT2).imp ?_
  rintro v4 H3 ⟨hK3, want, rfl, hW, hlen⟩
  have hKA3 := hK1.trans (hK2.trans hK3)
  have hld3 := trie_ld (hKA3.get hg)
  simp (disch := first | omega | assumption | (simp only [size_alloc, size_put] <;> omega) | (simp only [RK, Nat.reduceAdd] <;> omega) | fail) only [R1, R, Nat.reduceBEq, Nat.reduceAdd, hld3]
  refine (toTrie_ok (hKA3.wf hLA) (hTA.kp hKA3)).imp ?_
  rintro v5 H4 ⟨b1, b2, rfl, hs4, hK4⟩
  have hT4 := CopyT.at hs4 (hTA.kp hKA3)
  have hKA4 := hKA3.trans hK4
  have hL4 := hKA4.wf hLA
  have ho1 := hT4.ws.one
  have ho2 := hT4.es.one
  have hKB : Kp H4 (H4.alloc ⟨[.int .i64 T.n, b1, .int .i64 T.m, b2, sv T.lb], 0⟩) := Kp.refl.alloc
  generalize hHB : H4.alloc ⟨[.int .i64 T.n, b1, .int .i64 T.m, b2, sv T.lb], 0⟩ = HB at *
  have hgB : HB.get H4.size = some ⟨trieC T b1 b2, 0⟩ := by rw [← hHB]; exact get_alloc_self rfl
  have hldB := trie_ld hgB
  simp (disch := first | omega | assumption | (simp only [size_alloc, size_put] <;> omega) | (simp only [RK, Nat.reduceAdd, ho1.1, ho1.2, ho2.1, ho2.2] <;> omega) | fail) only [R1, R, Nat.reduceBEq, Nat.reduceAdd, store_all, hHB, hldB, ho1.1, ho1.2, ho2.1, ho2.2]
  refine (iKeysWithPrefix_ok (hKB.wf hL4) (hT4.kp hKB)).imp ?_
  rintro v6 H6 ⟨hK6, got, rfl, hO⟩
  have hld6 := trie_ld (hK6.get hgB)
  have hKA6 := hKA4.trans (hKB.trans hK6)
  have hld6' := trie_ld (hKA6.get hg)
  have hK36 : Kp H3 H6 := hK4.trans (hKB.trans hK6)
  simp (disch := first | omega | assumption | (simp only [size_alloc, size_put] <;> omega) | (simp only [RK, Nat.reduceAdd] <;> omega) | fail) only [R1, R, Nat.reduceBEq, Nat.reduceAdd]
  refine (eqStringS_ok hO.1 (hW.kp hK36) (by omega)).is ?_
  simp (disch := first | omega | assumption | (simp only [size_alloc, size_put] <;> omega) | (simp only [RK, Nat.reduceAdd] <;> omega) | fail) only [R1, R, Nat.reduceBEq, Nat.reduceAdd, decide_true, beq_self_eq_true, hld6, hld6']
  refine (toTrie_ok (hKA6.wf hLA) (hTA.kp hKA6)).imp ?_
  rintro v7 H7 ⟨c1, c2, rfl, hs7, hK7⟩
  have hT7 := CopyT.at hs7 (hTA.kp hKA6)
  simp (disch := first | omega | assumption | (simp only [size_alloc, size_put] <;> omega) | (simp only [RK, Nat.reduceAdd] <;> omega) | fail) only [R1, R, Nat.reduceBEq, Nat.reduceAdd]
  refine (eqTrie_ok (hT4.kp (hKB.trans (hK6.trans hK7))) hT7).ret fun H8 hK8 => ?_
  rw [sameT_self]
  simp (disch := first | omega | assumption | (simp only [size_alloc, size_put] <;> omega) | (simp only [RK, Nat.reduceAdd] <;> omega) | fail) only [R1, R, Nat.reduceBEq, Nat.reduceAdd]
  refine ADr_fin (ck_cons (ck_load rfl rfl rfl rfl rfl (kp_same hK7 (get_lt (hK6.get hgB)))) ck_nil) ?_
  have hK68 := hK7.trans hK8
  have hK48 := hKB.trans (hK6.trans hK68)
  have hld8 := trie_ld (hK68.get (hK6.get hgB))
  have hlo3 : H8.lo ≤ H3.size := by
    have e : H8.lo = H.lo := (hKA4.trans hK48).lo.trans hKA.lo
    have := hKA.size; have := hKA3.size; omega
  simp (disch := first | omega | assumption | (simp only [size_alloc, size_put] <;> omega) | (simp only [RK, Nat.reduceAdd] <;> omega) | fail) only [R1, R, Nat.reduceBEq, Nat.reduceAdd, hld8]
  refine (markTrie_ok (k := 1) ((hKA4.trans hK48).wf hLA) (hs4.kp hK48) hlo3 hT.wl hT.el (by omega)).imp ?_
  rintro v8 H9 ⟨rfl, hX⟩
  have g1 : ∀ b, blkOf b1 = some b → H3.size ≤ b := hs4.ge _ (.head _)
  have g2 : ∀ b, blkOf b2 = some b → H3.size ≤ b := hs4.ge _ (.tail _ (.head _))
  have l1 : ∀ b, blkOf b1 = some b → b < H4.size := fun b hb => SlC.lt hT4.ws hb
  have l2 : ∀ b, blkOf b2 = some b → b < H4.size := fun b hb => SlC.lt hT4.es hb
  have hK39 : Kp H3 H9 := hX.base (hK4.trans hK48) g1 g2
  have hO8 := hO.kp hK68
  have hO9 : Own sv HB.size H9 got (lKeysWithPrefix T s).1 := by
    refine ⟨SlC.loc hO8.1 fun b hb => ?_, hO8.2⟩
    have e1 := hO8.2 b hb
    have e2 := hKB.size
    exact hX.2.2 b (SlC.lt hO8.1 hb) (fun h => by have := l1 b h; omega) (fun h => by have := l2 b h; omega)
  have hneg : ∀ n : Nat, decide ((n : Int) < 0) = false := fun n => decide_eq_false (by omega)
  simp (disch := first | omega | assumption | (simp only [size_alloc, size_put] <;> omega) | (simp only [RK, Nat.reduceAdd] <;> omega) | fail) only [R1, R, Nat.reduceBEq, Nat.reduceAdd, hneg]
  refine (eqStringS_ok hO9.1 (hW.kp hK39) (by omega)).is ?_
  simp (disch := first | omega | assumption | (simp only [size_alloc, size_put] <;> omega) | (simp only [RK, Nat.reduceAdd] <;> omega) | fail) only [R1, R, Nat.reduceBEq, Nat.reduceAdd, decide_true, beq_self_eq_true]
  have hlo9 : H9.lo ≤ HB.size := by rw [hX.1]; have := hKB.size; have := hK4.size; omega
  refine (markStringS_ok (k := 1) hO9.1 (fun b hb => Nat.le_trans hlo9 (hO9.2 b hb)) (by omega) (by omega)).imp ?_
  rintro v9 H10 ⟨rfl, hX10, hM⟩
  have hge : ∀ b, blkOf got = some b → H3.size ≤ b := fun b hb => by have := hO9.2 b hb; have := hKB.size; have := hK4.size; omega
  have hK310 : Kp H3 H10 := hK39.app hX10 hge
  simp (disch := first | omega | assumption | (simp only [size_alloc, size_put] <;> omega) | (simp only [RK, Nat.reduceAdd] <;> omega) | fail) only [R1, R, Nat.reduceBEq, Nat.reduceAdd]
  refine (heldStringS_ok (k := 1) hM (by omega) (by omega)).ret fun H11 hK11 => ?_
  have hKA11 := hKA3.trans (hK310.trans hK11)
  have hld11 := trie_ld (hKA11.get hg)
  simp (disch := first | omega | assumption | (simp only [size_alloc, size_put] <;> omega) | (simp only [RK, Nat.reduceAdd] <;> omega) | fail) only [R1, R, Nat.reduceBEq, Nat.reduceAdd, hneg, decide_true, hld11]
  refine (toTrie_ok (hKA11.wf hLA) (hTA.kp hKA11)).imp ?_
  rintro v10 H12 ⟨d1, d2, rfl, hs12, hK12⟩
  have hT12 := CopyT.at hs12 (hTA.kp hKA11)
  simp (disch := first | omega | assumption | (simp only [size_alloc, size_put] <;> omega) | (simp only [RK, Nat.reduceAdd] <;> omega) | fail) only [R1, R, Nat.reduceBEq, Nat.reduceAdd]
  refine (iKeysWithPrefix_ok ((hKA11.trans hK12).wf hLA) hT12).imp ?_
  rintro v11 H13 ⟨hK13, got2, rfl, hO13⟩
  have hK313 := hK310.trans (hK11.trans (hK12.trans hK13))
  simp (disch := first | omega | assumption | (simp only [size_alloc, size_put] <;> omega) | (simp only [RK, Nat.reduceAdd] <;> omega) | fail) only [R1, R, Nat.reduceBEq, Nat.reduceAdd]
  refine (eqStringS_ok hO13.1 (hW.kp hK313) (by omega)).is ?_
  simp (disch := first | omega | assumption | (simp only [size_alloc, size_put] <;> omega) | (simp only [RK, Nat.reduceAdd] <;> omega) | fail) only [R1, R, Nat.reduceBEq, Nat.reduceAdd, decide_true, beq_self_eq_true]
  refine (heldStringS_ok (k := 1) (hM.kp (hK11.trans (hK12.trans hK13))) (by omega) (by omega)).ret fun H14 hK14 => ?_
  simp (disch := first | omega | assumption | (simp only [size_alloc, size_put] <;> omega) | (simp only [RK, Nat.reduceAdd] <;> omega) | fail) only [R1, R, Nat.reduceBEq, Nat.reduceAdd, hneg, decide_true]
end Go.AE
