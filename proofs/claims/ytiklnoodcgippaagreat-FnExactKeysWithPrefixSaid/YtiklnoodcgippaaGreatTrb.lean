/- A trie of keys as the program makes it; no condition. A trie of keys as the reference makes it; no condition. What a valid trie is: its keys are told by its text; no condition. The nodes of a trie as the program reads them; no condition. The nodes of a trie as the program reads them, whole; no condition. The keys of a trie as the reference reads them; no condition. The strings of all nodes as the reference reads them; no condition. The keys of a trie as the reference tells them; no condition. Sizes, copies and comparisons of plain data; no condition. Copies and comparisons of a trie's struct; no condition. Parents in a trie; no condition. The law of parents: it returns true; no condition. -/
import Derived.Test.YtiklnoodcgippaaGreatTra
import Derived.Test.YtiklnoodcgippaaGreatAec
set_option linter.unusedSimpArgs false
set_option linter.unusedVariables false
set_option linter.unusedSectionVars false
set_option linter.unusedVariables false
set_option linter.unusedSimpArgs false
namespace Go.AE
variable {H : AH}

/-- A new trie: its shape, its ends, its labels. -/
def MkTrie (H : AH) (sh en : List Bool) (lb : Str) : CPost := fun v' H' => ∃ v1 w1 v2 w2, v' = .agg #[.int .i64 sh.length, v1, .int .i64 en.length, v2, sv lb] ∧ Sep H.size H' [.own nv v1 w1, .own nv v2 w2] ∧ BitsAre w1 sh ∧ BitsAre w2 en ∧ Kp H H'

theorem children_len {nodes : List Str} {s : Str} : children nodes s ≤ nodes.length := List.length_filter_le _ _

theorem trie1_ok {p : Value} {b : Nat} {v : Value} {l : List Bool} {es : Nat} {n : Nat} (hg : H.get b = some ⟨[v], es⟩) (hS : Bools H v l) (hn : n = l.length) :
    Says H (.func (.func n_i_trie_1) #[] #[.pointer (some ⟨b, 0, none⟩)]) n (fun i => l.getD i default) := by
  intro i hi H1 hK
  subst hn
  rw [AClo_cap]
  refine Is.toRet ?_
  refine k_i_trie_1 rfl ?_
  have hg' := hK.get hg
  have hS' := hS.kp hK
  simp (disch := first | omega | assumption | (simp only [size_alloc, size_put] <;> omega) | (simp only [RK, Nat.reduceAdd] <;> omega) | fail) only [R1, R, Nat.reduceBEq, Nat.reduceAdd, b_i_trie_1, (load_at hg').1, hS'.r]
  exact .mk rfl
theorem trie2_ok {b c : Nat} {v u : Value} {keys nodes : List Str} {es fs : Nat} {n : Nat} (hg : H.get b = some ⟨[u], es⟩) (hh : H.get c = some ⟨[v], fs⟩) (hS : Strs H v nodes) (hU : Strs H u keys) (hn : n = nodes.length) (hl : keys.length ≤ 1099511627776) :
    Says H (.func (.func n_i_trie_2) #[] #[.pointer (some ⟨b, 0, none⟩), .pointer (some ⟨c, 0, none⟩)]) n (fun i => keys.contains (nodes.getD i default)) := by
  intro i hi H1 hK
  subst hn
  rw [AClo_cap]
  refine Is.toRet ?_
  refine k_i_trie_2 rfl ?_
  have hg' := hK.get hg
  have hh' := hK.get hh
  have hS' := hS.kp hK
  have hU' := hU.kp hK
  simp (disch := first | omega | assumption | (simp only [size_alloc, size_put] <;> omega) | (simp only [RK, Nat.reduceAdd] <;> omega) | fail) only [R1, R, Nat.reduceBEq, Nat.reduceAdd, b_i_trie_2, (load_at hg').1, (load_at hh').1, hS'.r, Contains_eq hU' hl]
  exact .mk rfl
theorem trie_ok {v : Value} {keys : List Str} (hL : Wf H) (hS : Strs H v keys) (hk : areKeys keys = true) :
    ACalls Ez n_i_trie [v] H (MkTrie H (shapeOf (children (nodesOf keys)) (nodesOf keys)) (endsOf keys (nodesOf keys)) (labelsOf (nodesOf keys))) := by
  refine k_i_trie rfl ?_
  have hone := hS.one
  have hwf : H.lo ≤ H.size := hL
  generalize hA : (H.alloc ⟨[v], 0⟩).alloc ⟨[.int .i64 0, .slice none 0 0, .int .i64 0, .slice none 0 0, sv []], 0⟩ = HA
  have hKA : Kp H HA := by rw [← hA]; exact Kp.refl.alloc.alloc
  have hLA : Wf HA := hKA.wf hL
  have hgA1 : HA.get H.size = some ⟨[v], 0⟩ := by rw [← hA, get_alloc_lt (by rw [size_alloc]; omega)]; exact get_alloc_self rfl
  have hgA2 : HA.get (H.size + 1) = some ⟨[.int .i64 0, .slice none 0 0, .int .i64 0, .slice none 0 0, sv []], 0⟩ := by rw [← hA]; exact get_alloc_self (by rw [size_alloc])
  simp (disch := first | omega | assumption | (simp only [size_alloc, size_put] <;> omega) | (simp only [RK, Nat.reduceAdd, hone.1, hone.2] <;> omega) | fail) only [R1, R, Nat.reduceBEq, Nat.reduceAdd, b_i_trie, hA, cells1 hone.1, (load_at hgA1).1, hone.1, hone.2]
  refine (nodesFor_ok hLA (hS.kp hKA) hk).imp ?_
  rintro wn H1 ⟨hN, hK1⟩
  have hNone := hN.1.one
  have hL1 : Wf H1 := hK1.wf hLA
  have hwf1 : H1.lo ≤ H1.size := hL1
  simp (disch := first | omega | assumption | (simp only [size_alloc, size_put] <;> omega) | (simp only [RK, Nat.reduceAdd, hNone.1, hNone.2, hL1] <;> omega) | fail) only [R1, R, Nat.reduceBEq, Nat.reduceAdd, hN.1.len, hNone.1, hNone.2, hL1]
  generalize hB : (((H1.alloc ⟨[], 1⟩).alloc ⟨[], 1⟩).alloc ⟨[wn], 0⟩).alloc ⟨[.slice (some ⟨H1.size, 0, none⟩) 0 0], 0⟩ = HB
  have hKB : Kp H1 HB := by rw [← hB]; exact Kp.refl.alloc.alloc.alloc.alloc
  have hsep : Sep H1.size HB [.box (H1.size + 1 + 1 + 1) ⟨[.slice (some ⟨H1.size, 0, none⟩) 0 0], 0⟩, .box (H1.size + 1 + 1) ⟨[wn], 0⟩, .own bv (.slice (some ⟨H1.size + 1, 0, none⟩) 0 0) [], .own Value.bool (.slice (some ⟨H1.size, 0, none⟩) 0 0) []] := by
    rw [← hB]
    refine Sep.new (H := ((H1.alloc ⟨[], 1⟩).alloc ⟨[], 1⟩).alloc ⟨[wn], 0⟩) ?_ Kp.refl.alloc (get_alloc_self (by simp only [size_alloc])) (fun b hb => by cases hb; simp only [size_alloc]; omega) (by simp only [size_alloc]; omega)
    refine Sep.new (H := (H1.alloc ⟨[], 1⟩).alloc ⟨[], 1⟩) ?_ Kp.refl.alloc (get_alloc_self (by simp only [size_alloc])) (fun b hb => by cases hb; simp only [size_alloc]; omega) (by simp only [size_alloc]; omega)
    refine Sep.new (H := H1.alloc ⟨[], 1⟩) ?_ Kp.refl.alloc (Sl.fresh (get_alloc_self (by simp only [size_alloc])) rfl rfl) (fun b hb => by cases hb; simp only [size_alloc]; omega) (by simp only [size_alloc]; omega)
    exact Sep.new (H := H1) .nil Kp.refl.alloc (Sl.fresh (get_alloc_self rfl) rfl rfl) (fun b hb => by cases hb; exact Nat.le_refl _) (Nat.le_refl _)
  have hnl := nodesOf_len hk
  obtain ⟨tl, htl, htl1⟩ := @nodesOf_head keys
  have hcl : ∀ s ∈ nodesOf keys, children (nodesOf keys) s ≤ 481 := fun s _ => Nat.le_trans children_len hnl.1
  have hall : AllS (nodesOf keys) := ⟨by omega, fun s hs => by have := hnl.2 s hs; omega⟩
  refine AWP_for (nodesOf keys).length (fun k t H' => ∃ ws wl, t 5 = wl ∧ Kp H1 H' ∧ Sep H1.size H' [.box (H1.size + 1 + 1 + 1) ⟨[ws], 0⟩, .box (H1.size + 1 + 1) ⟨[wn], 0⟩, .own bv wl (labelsOf ((nodesOf keys).take k)), .own Value.bool ws (shapeOf (children (nodesOf keys)) ((nodesOf keys).take k))])
    rfl rfl (by omega) ⟨_, _, rfl, hKB, hsep⟩ rfl ?_ ?_
  · rintro k t H2 hlt hi hn hT ⟨ws, wl, h5, hK2, hsp⟩
    have h3 : t 3 = .pointer (some ⟨H1.size + 1 + 1, 0, none⟩) := hT 3 rfl
    have h4 : t 4 = .pointer (some ⟨H1.size + 1 + 1 + 1, 0, none⟩) := hT 4 rfl
    have h12 : t 12 = wn := hT 12 rfl
    have hw4 : H2.get (H1.size + 1 + 1 + 1) = some ⟨[ws], 0⟩ := hsp.get 0 rfl
    have hw3 : H2.get (H1.size + 1 + 1) = some ⟨[wn], 0⟩ := hsp.get 1 rfl
    have hN2 := hN.1.kp hK2
    have hL2 : Wf H2 := hK2.wf hL1
    have hN3 := hN2.kp (Kp.refl.alloc (b := ⟨[.bool true], 1⟩))
    have hw3' : (H2.alloc ⟨[.bool true], 1⟩).get (H1.size + 1 + 1) = some ⟨[wn], 0⟩ := by rw [get_alloc_lt (get_lt hw3)]; exact hw3
    have hsl : ((nodesOf keys).getD k default).length ≤ 12 := by rw [getD_eq hlt]; exact hnl.2 _ (List.getElem_mem hlt)
    have hch : children (nodesOf keys) ((nodesOf keys).getD k default) ≤ 481 := Nat.le_trans children_len hnl.1
    have hshl := shapeOf_len (cnt := children (nodesOf keys)) (nodes := (nodesOf keys).take k) (m := 481) fun s hs => hcl s (List.mem_of_mem_take hs)
    simp (disch := first | omega | assumption | (simp only [size_alloc, size_put] <;> omega) | (simp only [RK, Nat.reduceAdd] <;> omega) | fail) only [R1, R, Nat.reduceBEq, Nat.reduceAdd, L_i_trie_0, hi, h3, h4, h12, hN2.r, (load_at hw3).1, (load_at hw4).1, (load_at hw3').1, childrenOf_eq hN3 hall]
    refine (Repeat_ok (n := children (nodesOf keys) ((nodesOf keys).getD k default)) hL2.alloc Sl.one1 (by omega)).imp ?_
    rintro wr H3 ⟨hR, hK3⟩
    have hK23 : Kp H2 H3 := (Kp.refl.alloc).trans hK3
    have hsz3 := hK23.size
    have hsp3 := hsp.kp hK23
    have hlsh : (shapeOf (children (nodesOf keys)) ((nodesOf keys).take k)).length ≤ 481 * 482 := Nat.le_trans hshl (Nat.mul_le_mul (by simp; omega) (Nat.le_refl _))
    have hlo3 : H3.lo ≤ H1.size := by rw [(hK2.trans hK23).lo]; exact hwf1
    have hs2 := hK2.size
    obtain ⟨w4, H4, e4, hsp4, hX4, hg4, hS4⟩ := hsp3.append (bytes := 1) 3 rfl hlo3 hR.1 (fun _ => rfl) (by rw [List.length_replicate]; omega) (by omega)
    have hlo4 : H4.lo ≤ H1.size := by rw [hX4.1]; exact hlo3
    have hs4 := hX4.2.1
    obtain ⟨w5, H5, e5, hsp5, hX5, hg5, hS5⟩ := hsp4.append1 (f := Value.bool) (a := false) (bytes := 1) 3 rfl hlo4 (fun _ => rfl) (by rw [List.length_append, List.length_replicate]; omega) (by omega)
    have hb5 : H5.get (H1.size + 1 + 1 + 1) = some ⟨[ws], 0⟩ := hsp5.get 0 rfl
    have hlo5 : H5.lo ≤ H1.size := by rw [hX5.1]; exact hlo4
    have hst := box_store (x := w5) hb5 (by omega) hS5.one.1 hS5.one.2
    have hsb := get_lt hw4
    have hs5 := hX5.2.1
    have hsp6 : Sep H1.size (putB H5 (H1.size + 1 + 1 + 1) ⟨[w5], 0⟩) [.box (H1.size + 1 + 1 + 1) ⟨[w5], 0⟩, .box (H1.size + 1 + 1) ⟨[wn], 0⟩, .own bv wl (labelsOf ((nodesOf keys).take k)), .own Value.bool w5 (shapeOf (children (nodesOf keys)) ((nodesOf keys).take (k + 1)))] := by
      rw [shapeOf_take hlt, ← List.append_assoc]
      exact hsp5.upd 0 rfl box_kpx (box_get hb5) (fun b hb => .inl hb) (by omega)
    have hK6 : Kp H1 (putB H5 (H1.size + 1 + 1 + 1) ⟨[w5], 0⟩) := hsp5.base 0 rfl (hsp4.base 3 rfl (hsp3.base 3 rfl (hK2.trans hK23) hX4) hX5) box_kpx
    generalize hH6 : putB H5 (H1.size + 1 + 1 + 1) ⟨[w5], 0⟩ = H6 at hsp6 hK6
    simp (disch := first | omega | assumption | (simp only [size_alloc, size_put] <;> omega) | (simp only [RK, Nat.reduceAdd] <;> omega) | fail) only [R1, R, Nat.reduceBEq, Nat.reduceAdd, h4, e4, e5, hst, hH6]
    refine ADr_fin (ck_cons (ck_pure rfl rfl rfl rfl rfl) (ck_cons (ck_load rfl rfl rfl rfl h4 (kp_same hK3 (by rw [size_alloc]; omega))) (ck_cons (ck_pure rfl rfl rfl rfl rfl) (ck_cons (ck_pure rfl rfl rfl rfl rfl)
      (ck_cons (ck_new rfl rfl rfl rfl rfl (ge_same (by show (H2.alloc _).size ≤ H4.size; have := hK3.size; omega) (by show H3.size ≤ H4.size; omega))) (ck_cons (ck_new rfl rfl rfl rfl rfl (ge_same (by show H3.size ≤ H4.size; omega) (Nat.le_refl _))) ck_nil)))))) ?_
    simp (disch := first | omega | assumption | (simp only [size_alloc, size_put] <;> omega) | (simp only [RK, Nat.reduceAdd] <;> omega) | fail) only [R1, R, Nat.reduceBEq, Nat.reduceAdd]
    cases hk0 : decide (0 < (k : Int)) with
    | true =>
      simp only [decide_eq_true_eq] at hk0
      have hlen1 : 1 ≤ ((nodesOf keys).getD k default).length := by
        rw [getD_eq hlt]
        have hm := List.getElem_mem hlt
        cases k with
        | zero => omega
        | succ k =>
          simp only [htl, List.getElem_cons_succ]
          exact htl1 _ (List.getElem_mem _)
      have hlo6 : H6.lo ≤ H1.size := by rw [← hH6]; exact hlo5
      have hlb : (labelsOf ((nodesOf keys).take k)).length ≤ k := by simp [labelsOf]; omega
      have hs6 : H5.size ≤ H6.size := by rw [← hH6]; exact box_kpx.2.1
      obtain ⟨w7, H7, e7, hsp7, hX7, hg7, hS7⟩ := hsp6.append1 (f := bv) (a := ((nodesOf keys).getD k default).getD (((nodesOf keys).getD k default).length - 1) default) (bytes := 1) 2 rfl hlo6 (fun _ => rfl) (by omega) (by omega)
      have e1 : ((((nodesOf keys).getD k default).length : Int) - 1).toNat = ((nodesOf keys).getD k default).length - 1 := by omega
      simp only [bv_eq] at e7
      simp (disch := first | omega | assumption | (simp only [size_alloc, size_put] <;> omega) | (simp only [RK, Nat.reduceAdd] <;> omega) | fail) only [R1, R, Nat.reduceBEq, Nat.reduceAdd, h5, e1, e7]
      refine ⟨w5, w7, rfl, hsp6.base 2 rfl hK6 hX7, ?_⟩
      rw [labelsOf_take hlt, if_neg (by omega)]
      exact hsp7
    | false =>
      simp only [decide_eq_false_iff_not] at hk0
      simp (disch := first | omega | assumption | (simp only [size_alloc, size_put] <;> omega) | (simp only [RK, Nat.reduceAdd] <;> omega) | fail) only [R1, R, Nat.reduceBEq, Nat.reduceAdd, h5]
      refine ⟨w5, wl, rfl, hK6, ?_⟩
      rw [labelsOf_take hlt, if_pos (by omega), List.append_nil]
      exact hsp6
  · rintro t H2 hi hn hT ⟨ws, wl, h5, hK2, hsp⟩
    rw [List.take_length] at hsp
    have h3 : t 3 = .pointer (some ⟨H1.size + 1 + 1, 0, none⟩) := hT 3 rfl
    have h4 : t 4 = .pointer (some ⟨H1.size + 1 + 1 + 1, 0, none⟩) := hT 4 rfl
    have h1 : t 1 = .pointer (some ⟨H.size, 0, none⟩) := hT 1 rfl
    have h2 : t 2 = .pointer (some ⟨H.size + 1, 0, none⟩) := hT 2 rfl
    have hw4 : H2.get (H1.size + 1 + 1 + 1) = some ⟨[ws], 0⟩ := hsp.get 0 rfl
    have hw3 : H2.get (H1.size + 1 + 1) = some ⟨[wn], 0⟩ := hsp.get 1 rfl
    have hwl : Sl bv H2 wl _ := hsp.get 2 rfl
    have hws : Sl Value.bool H2 ws _ := hsp.get 3 rfl
    have hL2 : Wf H2 := hK2.wf hL1
    have hKA2 : Kp HA H2 := hK1.trans hK2
    have hshl := shapeOf_len (cnt := children (nodesOf keys)) (nodes := nodesOf keys) (m := 481) hcl
    have hlsh : (shapeOf (children (nodesOf keys)) (nodesOf keys)).length ≤ 481 * 482 := Nat.le_trans hshl (Nat.mul_le_mul hnl.1 (Nat.le_refl _))
    simp (disch := first | omega | assumption | (simp only [size_alloc, size_put] <;> omega) | (simp only [RK, Nat.reduceAdd] <;> omega) | fail) only [R1, R, Nat.reduceBEq, Nat.reduceAdd, h4, (load_at hw4).1, hws.len]
    refine (madeBits_ok (n := (shapeOf (children (nodesOf keys)) (nodesOf keys)).length) hL2 (by omega) (trie1_ok (p := v) hw4 hws rfl)).imp ?_
    rintro v3 H3 ⟨vs3, w3, hv3, hN3, hB3, hK3, hb3⟩
    rw [range_getD] at hv3 hB3
    subst hv3
    have hL3 : Wf H3 := hK3.wf hL2
    have hw3' := hK3.get hw3
    have hgA1' := hK3.get (hKA2.get hgA1)
    have hN23 := hN.1.kp (hK2.trans hK3)
    have hS23 := hS.kp (hKA.trans (hKA2.trans hK3))
    have hkl := areKeys_len hk
    simp (disch := first | omega | assumption | (simp only [size_alloc, size_put] <;> omega) | (simp only [RK, Nat.reduceAdd] <;> omega) | fail) only [R1, R, Nat.reduceBEq, Nat.reduceAdd, h3, h1, (load_at hw3').1, hN23.len]
    refine (madeBits_ok (n := (nodesOf keys).length) hL3 (by omega) (trie2_ok hgA1' hw3' hN23 hS23 rfl (by omega))).imp ?_
    rintro v4 H4 ⟨vs4, w4, hv4, hN4, hB4, hK4, hb4⟩
    rw [range_map_getD (f := keys.contains)] at hv4 hB4
    subst hv4
    have hwl4 := hwl.kp (hK3.trans hK4)
    have hgA4 := hK4.get (hK3.get (hKA2.get hgA2))
    have hone3 := hN3.one
    have hone4 := hN4.one
    have hlo4 : H4.lo ≤ H.size + 1 := by
      rw [hK4.lo, hK3.lo, hKA2.lo, hKA.lo]; omega
    have hst := boxN_store (n := 5) (ns := [.int .i64 (shapeOf (children (nodesOf keys)) (nodesOf keys)).length, vs3, .int .i64 ((nodesOf keys).map keys.contains).length, vs4, sv (labelsOf (nodesOf keys))]) hgA4 hlo4 rfl rfl (by simp [hone3, hone4, int_one, sv_one])
    have hK04 : Kp H H4 := hKA.trans (hKA2.trans (hK3.trans hK4))
    simp (disch := first | omega | assumption | (simp only [size_alloc, size_put] <;> omega) | (simp only [RK, Nat.reduceAdd] <;> omega) | fail) only [R1, R, Nat.reduceBEq, Nat.reduceAdd, h2, h5, hwl4.b2s, build221, hst, sv_cells]
    refine ADr_fin (ck_cons (ck_load rfl rfl rfl rfl h3 (kp_same hK3 (get_lt hw3))) (ck_cons (ck_b2s wl rfl rfl rfl rfl rfl fun b hb => kp_same hK3 (SlC.lt hwl hb)) (ck_cons (ck_b2s wl rfl rfl rfl rfl rfl fun b hb => kp_same hK4 (SlC.lt (hwl.kp hK3) hb)) ck_nil))) ?_
    simp (disch := first | omega | assumption | (simp only [size_alloc, size_put] <;> omega) | (simp only [RK, Nat.reduceAdd] <;> omega) | fail) only [R1, R, Nat.reduceBEq, Nat.reduceAdd, h2, (load_at (box_get hgA4)).2, oAgg_all]
    have hsp5 : Sep H.size H4 [.box (H.size + 1) ⟨[.int .i64 0, .slice none 0 0, .int .i64 0, .slice none 0 0, sv []], 0⟩, .own nv vs3 w3, .own nv vs4 w4] := by
      have hszA := get_lt hgA2
      have a1 := hKA2.size
      have a2 := hK3.size
      have b1 : Sep H.size HA [.box (H.size + 1) ⟨[.int .i64 0, .slice none 0 0, .int .i64 0, .slice none 0 0, sv []], 0⟩] := ⟨fun r hr => by rw [List.mem_singleton] at hr; subst hr; exact hgA2, fun r hr b hb => by rw [List.mem_singleton] at hr; subst hr; cases hb; omega, List.pairwise_singleton _ _⟩
      have b2 := (b1.kp hKA2).new (r := .own nv vs3 w3) hK3 hN3 hb3 (by omega)
      have b3 := b2.new (r := .own nv vs4 w4) hK4 hN4 hb4 (by omega)
      exact b3.perm ((List.reverse_perm [Rs.box (H.size + 1) _, Rs.own nv vs3 w3, Rs.own nv vs4 w4]))
    have hsp6 := hsp5.upd 0 rfl (r' := .box (H.size + 1) ⟨[.int .i64 (shapeOf (children (nodesOf keys)) (nodesOf keys)).length, vs3, .int .i64 ((nodesOf keys).map keys.contains).length, vs4, sv (labelsOf (nodesOf keys))], 0⟩) box_kpx (box_get hgA4) (fun b hb => .inl hb) (by have := hK04.size; omega)
    exact ⟨vs3, w3, vs4, w4, rfl, hsp6.sub (List.sublist_cons_self _ _), hB3, hB4, hsp5.base 0 rfl hK04 box_kpx⟩
end Go.AE
set_option linter.unusedVariables false
set_option linter.unusedSimpArgs false
namespace Go.AE
variable {H : AH}

theorem Sl.drop {α : Type} {f : α → Value} {H : AH} {v : Value} {l : List α} (h : Sl f H v l) {m : Nat} (hm : m ≤ l.length) :
    ∃ v', opSliceSl 1 v (some (.int .i64 m)) none H = some v' ∧ Sl f H v' (l.drop m) ∧ blkOf v' = blkOf v := by
  obtain ⟨h0, ⟨rfl, hl⟩ | ⟨b, o, c, blk, rfl, h2, h3, h4, h5, h6⟩⟩ := h
  · have : l = [] := List.length_eq_zero_iff.mp hl
    subst this
    have : m = 0 := by simpa using hm
    subst this
    exact ⟨.slice none 0 0, rfl, .nil, rfl⟩
  · by_cases hc : c = 0
    · have hl : l = [] := List.length_eq_zero_iff.mp (by omega)
      subst hl
      have : m = 0 := by simpa using hm
      subst this
      subst hc
      refine ⟨.slice (some ⟨b, o, none⟩) 0 0, ?_, ⟨by simp, .inr ⟨b, o, 0, blk, rfl, by simp, h3, h4, by simpa using h5, by simp⟩⟩, rfl⟩
      simp [opSliceSl, bound]
    · refine ⟨.slice (some ⟨b, o + m * 1, none⟩) (l.length - m) (c - m), ?_, ⟨by simp, .inr ⟨b, o + m * 1, c - m, blk, by simp, by simp; omega, h3, h4, ?_, ?_⟩⟩, rfl⟩
      · simp only [opSliceSl, bound, Int.toNat_natCast]
        rw [if_pos (by omega)]
        simp only [if_neg hc, h3, h4, if_true]
      · rw [Nat.sub_mul]
        have : m * 1 ≤ c * 1 := Nat.mul_le_mul_right _ (by omega)
        omega
      · rw [List.map_drop, ← h6, List.drop_take, List.drop_drop, List.length_drop]
        simp only [Nat.mul_one]
theorem Sl.take {α : Type} {f : α → Value} {H : AH} {v : Value} {l : List α} (h : Sl f H v l) {m : Nat} (hm : m ≤ l.length) :
    ∃ v', opSliceSl 1 v none (some (.int .i64 m)) H = some v' ∧ Sl f H v' (l.take m) ∧ blkOf v' = blkOf v := by
  obtain ⟨h0, ⟨rfl, hl⟩ | ⟨b, o, c, blk, rfl, h2, h3, h4, h5, h6⟩⟩ := h
  · have : l = [] := List.length_eq_zero_iff.mp hl
    subst this
    have : m = 0 := by simpa using hm
    subst this
    exact ⟨.slice none 0 0, rfl, .nil, rfl⟩
  · by_cases hc : c = 0
    · have hl : l = [] := List.length_eq_zero_iff.mp (by omega)
      subst hl
      have : m = 0 := by simpa using hm
      subst this
      subst hc
      refine ⟨.slice (some ⟨b, o, none⟩) 0 0, ?_, ⟨by simp, .inr ⟨b, o, 0, blk, rfl, by simp, h3, h4, by simpa using h5, by simp⟩⟩, rfl⟩
      simp [opSliceSl, bound]
    · have hlen : (l.take m).length = m := by rw [List.length_take]; omega
      refine ⟨.slice (some ⟨b, o, none⟩) m c, ?_, ⟨by simp, .inr ⟨b, o, c, blk, by rw [hlen], by rw [hlen]; omega, h3, h4, h5, ?_⟩⟩, rfl⟩
      · simp only [opSliceSl, bound, Int.toNat_natCast]
        rw [if_pos (by omega)]
        simp [hc, h3, h4]
      · rw [List.map_take, ← h6, List.take_take, hlen]
        congr 1
        omega

/-- The children of a node lie behind it. -/
theorem later_kids {keys : List Str} {k : Nat} (hk : k < (nodesOf keys).length) : ((nodesOf keys).drop (k + 1)).filter (isChild ((nodesOf keys).getD k default)) = kids (nodesOf keys) ((nodesOf keys).getD k default) := by
  have e : kids (nodesOf keys) ((nodesOf keys).getD k default) = ((nodesOf keys).take (k + 1)).filter (isChild ((nodesOf keys).getD k default)) ++ ((nodesOf keys).drop (k + 1)).filter (isChild ((nodesOf keys).getD k default)) := by
    rw [← List.filter_append, List.take_append_drop]; rfl
  have h0 : ((nodesOf keys).take (k + 1)).filter (isChild ((nodesOf keys).getD k default)) = [] := by
    rw [List.filter_eq_nil_iff]
    intro x hx hc
    obtain ⟨j, hj, rfl⟩ := List.getElem_of_mem hx
    rw [List.length_take] at hj
    have hjl : j < (nodesOf keys).length := by omega
    rw [List.getElem_take] at hc
    have := node_idx hk hjl (by rw [getD_eq hjl]; exact hc)
    omega
  rw [e, h0, List.nil_append]

theorem trOf_ok {v : Value} {keys : List Str} (hL : Wf H) (hS : Strs H v keys) (hk : areKeys keys = true) :
    ACalls Ez n_s_trOf [v] H (MkTrie H (shapeOf (children (nodesOf keys)) (nodesOf keys)) (endsOf keys (nodesOf keys)) (labelsOf (nodesOf keys))) := by
  refine k_s_trOf rfl ?_
  have hone := hS.one
  have hwf : H.lo ≤ H.size := hL
  generalize hA : H.alloc ⟨[.int .i64 0, .slice none 0 0, .int .i64 0, .slice none 0 0, sv []], 0⟩ = HA
  have hKA : Kp H HA := by rw [← hA]; exact Kp.refl.alloc
  have hLA : Wf HA := hKA.wf hL
  have hgA : HA.get H.size = some ⟨[.int .i64 0, .slice none 0 0, .int .i64 0, .slice none 0 0, sv []], 0⟩ := by rw [← hA]; exact get_alloc_self rfl
  simp (disch := first | omega | assumption | (simp only [size_alloc, size_put] <;> omega) | (simp only [RK, Nat.reduceAdd] <;> omega) | fail) only [R1, R, Nat.reduceBEq, Nat.reduceAdd, b_s_trOf, hA]
  refine (trNodes_ok hLA (hS.kp hKA) hk).imp ?_
  rw [nodes_same hk]
  rintro wn H1 ⟨hN, hK1⟩
  have hL1 : Wf H1 := hK1.wf hLA
  have hwf1 : H1.lo ≤ H1.size := hL1
  have hnl := nodesOf_len hk
  have hkl := areKeys_len hk
  obtain ⟨tl, htl, htl1⟩ := @nodesOf_head keys
  have hcl : ∀ s ∈ nodesOf keys, children (nodesOf keys) s ≤ 481 := fun s _ => Nat.le_trans children_len hnl.1
  have hall : AllS (nodesOf keys) := ⟨by omega, fun s hs => by have := hnl.2 s hs; omega⟩
  simp (disch := first | omega | assumption | (simp only [size_alloc, size_put] <;> omega) | (simp only [RK, Nat.reduceAdd] <;> omega) | fail) only [R1, R, Nat.reduceBEq, Nat.reduceAdd, hN.1.len]
  have hsep : Sep H1.size H1 [.own Value.bool (.slice none 0 0) [], .own Value.bool (.slice none 0 0) [], .own bv (.slice none 0 0) []] :=
    ((Sep.nil.new (r := .own bv (.slice none 0 0) []) .refl .nil (fun b hb => by cases hb) (Nat.le_refl _)).new (r := .own Value.bool (.slice none 0 0) []) .refl .nil (fun b hb => by cases hb) (Nat.le_refl _)).new .refl .nil (fun b hb => by cases hb) (Nat.le_refl _)
  refine AWP_for (nodesOf keys).length (fun k t H' => ∃ ws we wl, t 4 = ws ∧ t 5 = we ∧ t 6 = wl ∧ Kp H1 H' ∧ Sep H1.size H' [.own Value.bool ws (shapeOf (children (nodesOf keys)) ((nodesOf keys).take k)), .own Value.bool we (endsOf keys ((nodesOf keys).take k)), .own bv wl (labelsOf ((nodesOf keys).take k))])
    rfl rfl (by omega) ⟨_, _, _, rfl, rfl, rfl, .refl, hsep⟩ rfl ?_ ?_
  · rintro k t H2 hlt hi hn hT ⟨ws, we, wl, h4, h5, h6, hK2, hsp⟩
    have h3 : t 3 = wn := hT 3 rfl
    have h13 : t 13 = wn := hT 13 rfl
    have h0 : t 0 = v := hT 0 rfl
    have hN2 := hN.1.kp hK2
    have hs2 := hK2.size
    have hlo2 : H2.lo ≤ H1.size := by rw [hK2.lo]; exact hwf1
    have hsl : ((nodesOf keys).getD k default).length ≤ 12 := by rw [getD_eq hlt]; exact hnl.2 _ (List.getElem_mem hlt)
    have hshl := shapeOf_len (cnt := children (nodesOf keys)) (nodes := (nodesOf keys).take k) (m := 481) fun s hs => hcl s (List.mem_of_mem_take hs)
    have hlsh : (shapeOf (children (nodesOf keys)) ((nodesOf keys).take k)).length ≤ 481 * 482 := Nat.le_trans hshl (Nat.mul_le_mul (by simp; omega) (Nat.le_refl _))
    obtain ⟨wd, ed, hSd, hbd⟩ := hN2.drop (m := k + 1) (by omega)
    have ek : ((k : Int) + 1) = ((k + 1 : Nat) : Int) := by omega
    have hdl : ((nodesOf keys).drop (k + 1)).length ≤ 481 := by rw [List.length_drop]; omega
    simp (disch := first | omega | assumption | (simp only [size_alloc, size_put] <;> omega) | (simp only [RK, Nat.reduceAdd] <;> omega) | fail) only [R1, R, Nat.reduceBEq, Nat.reduceAdd, L_s_trOf_1, hi, h3, h13, hN2.r, ek, ed, hSd.len]
    refine AWP_for ((nodesOf keys).drop (k + 1)).length (fun j t H' => ∃ ws, t 4 = ws ∧ t 5 = we ∧ t 6 = wl ∧ Kp H1 H' ∧ Sep H1.size H' [.own Value.bool ws (shapeOf (children (nodesOf keys)) ((nodesOf keys).take k) ++ List.replicate ((((nodesOf keys).drop (k + 1)).take j).filter (isChild ((nodesOf keys).getD k default))).length true), .own Value.bool we (endsOf keys ((nodesOf keys).take k)), .own bv wl (labelsOf ((nodesOf keys).take k))])
      rfl rfl (by omega) ⟨_, h4, h5, h6, hK2, by simpa using hsp⟩ rfl ?_ ?_
    · rintro j t' H3 hj hi' hn' hT' ⟨ws', h4', h5', h6', hK3, hsp3⟩
      have h23 : t' 23 = wd := hT' 23 rfl
      have h8 : t' 8 = sv ((nodesOf keys).getD k default) := hT' 8 rfl
      have hNd := hN.1.kp hK3
      have hSd3 := SlC.loc hSd (H' := H3) fun b hb => by
        rw [hbd] at hb
        have := SlC.lt hN.1 hb
        rw [hK3.2.2 b this, hK2.2.2 b this]
      have hSd4 : Strs H3 wd ((nodesOf keys).drop (k + 1)) := hSd3
      have hs3 := hK3.size
      have hlo3 : H3.lo ≤ H1.size := by rw [hK3.lo]; exact hwf1
      have hcl' : (((nodesOf keys).drop (k + 1)).getD j default).length ≤ 12 := by rw [getD_eq hj]; exact hnl.2 _ (List.mem_of_mem_drop (List.getElem_mem hj))
      have hfl : ((((nodesOf keys).drop (k + 1)).take j).filter (isChild ((nodesOf keys).getD k default))).length ≤ 481 := Nat.le_trans (List.length_filter_le _ _) (by rw [List.length_take]; omega)
      have hstep : ((((nodesOf keys).drop (k + 1)).take (j + 1)).filter (isChild ((nodesOf keys).getD k default))).length = ((((nodesOf keys).drop (k + 1)).take j).filter (isChild ((nodesOf keys).getD k default))).length + (if isChild ((nodesOf keys).getD k default) (((nodesOf keys).drop (k + 1)).getD j default) = true then 1 else 0) := by
        rw [take_succ_getD hj, List.filter_append, List.length_append]
        congr 1
        simp only [List.filter_cons, List.filter_nil]
        split <;> rfl
      have happ : ∀ (hc : isChild ((nodesOf keys).getD k default) (((nodesOf keys).drop (k + 1)).getD j default) = true), ∃ w4 H4, opAppend 1 1 ws' (.slice (some ⟨H3.size, 0, none⟩) 1 1) (H3.alloc ⟨[.bool true], 1⟩) = some (w4, H4) ∧ Kp H1 H4 ∧ Sep H1.size H4 [.own Value.bool w4 (shapeOf (children (nodesOf keys)) ((nodesOf keys).take k) ++ List.replicate ((((nodesOf keys).drop (k + 1)).take (j + 1)).filter (isChild ((nodesOf keys).getD k default))).length true), .own Value.bool we (endsOf keys ((nodesOf keys).take k)), .own bv wl (labelsOf ((nodesOf keys).take k))] := by
        intro hc
        obtain ⟨w4, H4, e4, hsp4, hX4, _, _⟩ := hsp3.append1 (f := Value.bool) (a := true) (bytes := 1) 0 rfl hlo3 (fun _ => rfl) (by rw [List.length_append, List.length_replicate]; omega) (by omega)
        refine ⟨w4, H4, e4, hsp3.base 0 rfl hK3 hX4, ?_⟩
        rw [hstep, if_pos hc, List.replicate_succ', ← List.append_assoc]
        exact hsp4
      simp (disch := first | omega | assumption | (simp only [size_alloc, size_put] <;> omega) | (simp only [RK, Nat.reduceAdd] <;> omega) | fail) only [R1, R, Nat.reduceBEq, Nat.reduceAdd, L_s_trOf_0, hi', h23, h8, hSd4.r]
      refine AGd_split (fun h => ?_) (fun h => ?_)
      · simp (disch := first | omega | assumption | (simp only [size_alloc, size_put] <;> omega) | (simp only [RK, Nat.reduceAdd] <;> omega) | fail) only [R1, R, Nat.reduceBEq, Nat.reduceAdd, h, h8, trBegins_eq]
        refine ACond_split (fun hb => ?_) (fun hb => ?_)
        · obtain ⟨w4, H4, e4, hK4, hsp4⟩ := happ (by rw [isChild, h, hb]; rfl)
          simp (disch := first | omega | assumption | (simp only [size_alloc, size_put] <;> omega) | (simp only [RK, Nat.reduceAdd] <;> omega) | fail) only [R1, R, Nat.reduceBEq, Nat.reduceAdd, h4', e4]
          exact ⟨_, rfl, h5', h6', hK4, hsp4⟩
        · simp (disch := first | omega | assumption | (simp only [size_alloc, size_put] <;> omega) | (simp only [RK, Nat.reduceAdd] <;> omega) | fail) only [R1, R, Nat.reduceBEq, Nat.reduceAdd]
          refine ⟨_, h4', h5', h6', hK3, ?_⟩
          rw [hstep, if_neg (by rw [isChild, h, hb]; simp)]
          exact hsp3
      · simp (disch := first | omega | assumption | (simp only [size_alloc, size_put] <;> omega) | (simp only [RK, Nat.reduceAdd] <;> omega) | fail) only [R1, R, Nat.reduceBEq, Nat.reduceAdd, h]
        refine ⟨_, h4', h5', h6', hK3, ?_⟩
        rw [hstep, if_neg (by rw [isChild, h]; simp)]
        exact hsp3
    · rintro t' H3 hi' hn' hT' ⟨ws', h4', h5', h6', hK3, hsp3⟩
      rw [List.take_length, later_kids hlt] at hsp3
      have h0' : t' 0 = v := (hT' 0 rfl).trans h0
      have h8 : t' 8 = sv ((nodesOf keys).getD k default) := hT' 8 rfl
      have h7 : t' 7 = .int .i64 k := hT' 7 rfl
      have hs3 := hK3.size
      have hlo3 : H3.lo ≤ H1.size := by rw [hK3.lo]; exact hwf1
      have hch : children (nodesOf keys) ((nodesOf keys).getD k default) ≤ 481 := Nat.le_trans children_len hnl.1
      obtain ⟨w4, H4, e4, hsp4, hX4, _, _⟩ := hsp3.append1 (f := Value.bool) (a := false) (bytes := 1) 0 rfl hlo3 (fun _ => rfl) (by rw [List.length_append, List.length_replicate, ← children_kids]; omega) (by omega)
      have hK4 := hsp3.base 0 rfl hK3 hX4
      rw [List.append_assoc, ← children_kids, ← shapeOf_take hlt] at hsp4
      have hS4 := hS.kp (hKA.trans (hK1.trans hK4))
      have hs4 := hK4.size
      have hlo4 : H4.lo ≤ H1.size := by rw [hK4.lo]; exact hwf1
      have hel : (endsOf keys ((nodesOf keys).take k)).length ≤ k := by simp [endsOf]; omega
      obtain ⟨w5, H5, e5, hsp5, hX5, _, _⟩ := hsp4.append1 (f := Value.bool) (a := keys.contains ((nodesOf keys).getD k default)) (bytes := 1) 1 rfl hlo4 (fun _ => rfl) (by omega) (by omega)
      have hK5 := hsp4.base 1 rfl hK4 hX5
      have hee : endsOf keys ((nodesOf keys).take (k + 1)) = endsOf keys ((nodesOf keys).take k) ++ [keys.contains ((nodesOf keys).getD k default)] := by
        rw [take_succ_getD hlt, endsOf, List.map_append]; rfl
      simp (disch := first | omega | assumption | (simp only [size_alloc, size_put] <;> omega) | (simp only [RK, Nat.reduceAdd] <;> omega) | fail) only [R1, R, Nat.reduceBEq, Nat.reduceAdd, h4', e4, h5', h0', h8, h7, l1HasS_eq hS4, e5]
      cases hk0 : decide (0 < (k : Int)) with
      | true =>
        simp only [decide_eq_true_eq] at hk0
        have hlen1 : 1 ≤ ((nodesOf keys).getD k default).length := by
          rw [getD_eq hlt]
          have hm := List.getElem_mem hlt
          cases k with
          | zero => omega
          | succ k =>
            simp only [htl, List.getElem_cons_succ]
            exact htl1 _ (List.getElem_mem _)
        have hs5 := hK5.size
        have hlo5 : H5.lo ≤ H1.size := by rw [hK5.lo]; exact hwf1
        have hlb : (labelsOf ((nodesOf keys).take k)).length ≤ k := by simp [labelsOf]; omega
        obtain ⟨w7, H7, e7, hsp7, hX7, hg7, hS7⟩ := hsp5.append1 (f := bv) (a := ((nodesOf keys).getD k default).getD (((nodesOf keys).getD k default).length - 1) default) (bytes := 1) 2 rfl hlo5 (fun _ => rfl) (by omega) (by omega)
        have e1 : ((((nodesOf keys).getD k default).length : Int) - 1).toNat = ((nodesOf keys).getD k default).length - 1 := by omega
        simp only [bv_eq] at e7
        simp (disch := first | omega | assumption | (simp only [size_alloc, size_put] <;> omega) | (simp only [RK, Nat.reduceAdd] <;> omega) | fail) only [R1, R, Nat.reduceBEq, Nat.reduceAdd, h6', h8, e1, e7]
        refine ⟨w4, w5, w7, rfl, rfl, rfl, hsp5.base 2 rfl hK5 hX7, ?_⟩
        rw [hee, labelsOf_take hlt, if_neg (by omega)]
        exact hsp7
      | false =>
        simp only [decide_eq_false_iff_not] at hk0
        simp (disch := first | omega | assumption | (simp only [size_alloc, size_put] <;> omega) | (simp only [RK, Nat.reduceAdd] <;> omega) | fail) only [R1, R, Nat.reduceBEq, Nat.reduceAdd, h6']
        refine ⟨w4, w5, wl, rfl, rfl, rfl, hK5, ?_⟩
        rw [hee, labelsOf_take hlt, if_pos (by omega), List.append_nil]
        exact hsp5
  · rintro t H2 hi hn hT ⟨ws, we, wl, h4, h5, h6, hK2, hsp⟩
    rw [List.take_length] at hsp
    have h2 : t 2 = .pointer (some ⟨H.size, 0, none⟩) := hT 2 rfl
    have hws : Sl Value.bool H2 ws _ := hsp.get 0 rfl
    have hwe : Sl Value.bool H2 we _ := hsp.get 1 rfl
    have hwl : Sl bv H2 wl _ := hsp.get 2 rfl
    have hL2 : Wf H2 := hK2.wf hL1
    have hKA2 : Kp HA H2 := hK1.trans hK2
    have hshl := shapeOf_len (cnt := children (nodesOf keys)) (nodes := nodesOf keys) (m := 481) hcl
    have hlsh : (shapeOf (children (nodesOf keys)) (nodesOf keys)).length ≤ 481 * 482 := Nat.le_trans hshl (Nat.mul_le_mul hnl.1 (Nat.le_refl _))
    have hle : (endsOf keys (nodesOf keys)).length ≤ 481 := by simp [endsOf]; omega
    simp (disch := first | omega | assumption | (simp only [size_alloc, size_put] <;> omega) | (simp only [RK, Nat.reduceAdd] <;> omega) | fail) only [R1, R, Nat.reduceBEq, Nat.reduceAdd, h4]
    refine (biSome_ok hL2 hws (by omega)).imp ?_
    rintro v3 H3 ⟨vs3, w3, rfl, hN3, hB3, hK3, hb3⟩
    have hL3 : Wf H3 := hK3.wf hL2
    simp (disch := first | omega | assumption | (simp only [size_alloc, size_put] <;> omega) | (simp only [RK, Nat.reduceAdd] <;> omega) | fail) only [R1, R, Nat.reduceBEq, Nat.reduceAdd, h5]
    refine (biSome_ok hL3 (hwe.kp hK3) (by omega)).imp ?_
    rintro v4 H4 ⟨vs4, w4, rfl, hN4, hB4, hK4, hb4⟩
    have hwl4 := hwl.kp (hK3.trans hK4)
    have hgA4 := hK4.get (hK3.get (hKA2.get hgA))
    have hone3 := hN3.one
    have hone4 := hN4.one
    have hlo4 : H4.lo ≤ H.size := by
      rw [hK4.lo, hK3.lo, hKA2.lo, hKA.lo]; omega
    have hst := boxN_store (n := 5) (ns := [.int .i64 (shapeOf (children (nodesOf keys)) (nodesOf keys)).length, vs3, .int .i64 (endsOf keys (nodesOf keys)).length, vs4, sv (labelsOf (nodesOf keys))]) hgA4 hlo4 rfl rfl (by simp [hone3, hone4, int_one, sv_one])
    have hK04 : Kp H H4 := hKA.trans (hKA2.trans (hK3.trans hK4))
    simp (disch := first | omega | assumption | (simp only [size_alloc, size_put] <;> omega) | (simp only [RK, Nat.reduceAdd] <;> omega) | fail) only [R1, R, Nat.reduceBEq, Nat.reduceAdd, h2, h6, hwl4.b2s, build221, hst, sv_cells]
    refine ADr_fin (ck_cons (ck_b2s wl rfl rfl rfl rfl rfl fun b hb => kp_same hK3 (SlC.lt hwl hb)) (ck_cons (ck_b2s wl rfl rfl rfl rfl rfl fun b hb => kp_same hK4 (SlC.lt (hwl.kp hK3) hb)) ck_nil)) ?_
    simp (disch := first | omega | assumption | (simp only [size_alloc, size_put] <;> omega) | (simp only [RK, Nat.reduceAdd] <;> omega) | fail) only [R1, R, Nat.reduceBEq, Nat.reduceAdd, h2, (load_at (box_get hgA4)).2, oAgg_all]
    have hsp5 : Sep H.size H4 [.box H.size ⟨[.int .i64 0, .slice none 0 0, .int .i64 0, .slice none 0 0, sv []], 0⟩, .own nv vs3 w3, .own nv vs4 w4] := by
      have hszA := get_lt hgA
      have a1 := hKA2.size
      have a2 := hK3.size
      have b1 : Sep H.size HA [.box H.size ⟨[.int .i64 0, .slice none 0 0, .int .i64 0, .slice none 0 0, sv []], 0⟩] := ⟨fun r hr => by rw [List.mem_singleton] at hr; subst hr; exact hgA, fun r hr b hb => by rw [List.mem_singleton] at hr; subst hr; cases hb; omega, List.pairwise_singleton _ _⟩
      have b2 := (b1.kp hKA2).new (r := .own nv vs3 w3) hK3 hN3 hb3 (by omega)
      have b3 := b2.new (r := .own nv vs4 w4) hK4 hN4 hb4 (by omega)
      exact b3.perm ((List.reverse_perm [Rs.box H.size _, Rs.own nv vs3 w3, Rs.own nv vs4 w4]))
    have hsp6 := hsp5.upd 0 rfl (r' := .box H.size ⟨[.int .i64 (shapeOf (children (nodesOf keys)) (nodesOf keys)).length, vs3, .int .i64 (endsOf keys (nodesOf keys)).length, vs4, sv (labelsOf (nodesOf keys))], 0⟩) box_kpx (box_get hgA4) (fun b hb => .inl hb) (by have := hK04.size; omega)
    exact ⟨vs3, w3, vs4, w4, rfl, hsp6.sub (List.sublist_cons_self _ _), hB3, hB4, hsp5.base 0 rfl hK04 box_kpx⟩
end Go.AE
set_option linter.unusedVariables false
set_option linter.unusedSimpArgs false
namespace Go.AE
variable {H : AH}

/-! ### right bits -/

theorem ints_nats {v : Value} {wn : List Nat} : Ints H v (wn.map Int.ofNat) ↔ Nats H v wn := by
  have e : (wn.map Int.ofNat).map (Value.int .i64) = wn.map nv := by rw [List.map_map]; rfl
  show SlC H 1 v (wn.map Int.ofNat).length ((wn.map Int.ofNat).map (Value.int .i64)) ↔ SlC H 1 v wn.length (wn.map nv)
  rw [e, List.length_map]
theorem nat_words {ws : List Int} (h : ws.all wordOk = true) : ∃ wn : List Nat, ws = wn.map Int.ofNat ∧ Words wn := by
  refine ⟨ws.map Int.toNat, ?_, ?_⟩
  · rw [List.map_map]
    have e : ws.map (Int.ofNat ∘ Int.toNat) = ws.map id := by
      refine List.map_congr_left fun w hw => ?_
      have := List.all_eq_true.mp h w hw
      simp only [wordOk, Bool.and_eq_true, decide_eq_true_eq] at this
      simp; omega
    rw [e, List.map_id]
  · intro w hw
    obtain ⟨x, hx, rfl⟩ := List.mem_map.mp hw
    have := List.all_eq_true.mp h x hx
    simp only [wordOk, Bool.and_eq_true, decide_eq_true_eq] at this
    omega
theorem isBits_bits {n : Int} {ws : List Int} (h : isBits n ws = true) : ∃ (l : List Bool) (wn : List Nat), n = l.length ∧ l.length ≤ 4096 ∧ ws = wn.map Int.ofNat ∧ BitsAre wn l := by
  simp only [isBits, Bool.and_eq_true, decide_eq_true_eq, Bool.or_eq_true] at h
  obtain ⟨⟨h1, h2⟩, h3, h4, h5⟩ := h
  obtain ⟨wn, rfl, hw⟩ := nat_words h4
  obtain ⟨m, rfl⟩ : ∃ m : Nat, n = m := ⟨n.toNat, by omega⟩
  rw [List.length_map] at h3
  refine ⟨(List.range m).map (bitAt wn), wn, by simp, by simp; omega, rfl, by simp; omega, hw, fun i => ?_⟩
  by_cases hi : i < m
  · simp [List.getD, List.getElem?_map, List.getElem?_range hi]
  · rw [List.getD, List.getElem?_eq_none (by simp; omega), Option.getD_none]
    unfold bitAt
    by_cases hl : i / 16 < wn.length
    · -- the last word, beyond the size
      have hm0 : m % 16 ≠ 0 := by omega
      have hlast : i / 16 = wn.length - 1 := by omega
      rcases h5 with h5 | h5
      · omega
      · have e1 : ((wn.map Int.ofNat).getD ((wn.map Int.ofNat).length - 1) default).toNat = wn.getD (i / 16) default := by
          rw [List.length_map, ← hlast, getD_eq (by rw [List.length_map]; exact hl), getD_eq hl, List.getElem_map]; rfl
        rw [e1] at h5
        have e2 : ((m : Int) % 16).toNat = m % 16 := by omega
        rw [e2] at h5
        have e3 : i % 16 = m % 16 + (i % 16 - m % 16) := by omega
        rw [e3, ← Nat.testBit_shiftRight, h5, Nat.zero_testBit]
    · have : wn.getD (i / 16) default = 0 := by rw [List.getD, List.getElem?_eq_none (by omega)]; rfl
      rw [this, Nat.zero_testBit]
theorem bits_isBits {l : List Bool} {wn : List Nat} (h : BitsAre wn l) (hl : l.length ≤ 4096) : isBits l.length (wn.map Int.ofNat) = true := by
  obtain ⟨h1, h2, h3⟩ := h
  simp only [isBits, Bool.and_eq_true, decide_eq_true_eq, Bool.or_eq_true, List.length_map]
  refine ⟨⟨by omega, by omega⟩, by omega, ?_, ?_⟩
  · rw [List.all_eq_true]
    intro w hw
    obtain ⟨x, hx, rfl⟩ := List.mem_map.mp hw
    have := h2 x hx
    simp only [wordOk, Bool.and_eq_true, decide_eq_true_eq]
    exact ⟨by simp, by simp; omega⟩
  · by_cases hm : (l.length : Int) % 16 = 0
    · exact .inl hm
    · right
      have hpos : 0 < wn.length := by omega
      have e1 : ((wn.map Int.ofNat).getD (wn.length - 1) default).toNat = wn.getD (wn.length - 1) default := by
        rw [getD_eq (by rw [List.length_map]; omega), getD_eq (by omega), List.getElem_map]; rfl
      have e2 : ((l.length : Int) % 16).toNat = l.length % 16 := by omega
      rw [e1, e2]
      apply Nat.eq_of_testBit_eq
      intro i
      rw [Nat.testBit_shiftRight, Nat.zero_testBit]
      by_cases hi : l.length % 16 + i < 16
      · have := h3 ((wn.length - 1) * 16 + (l.length % 16 + i))
        rw [List.getD, List.getElem?_eq_none (by omega), Option.getD_none] at this
        unfold bitAt at this
        rw [show ((wn.length - 1) * 16 + (l.length % 16 + i)) / 16 = wn.length - 1 by omega, show ((wn.length - 1) * 16 + (l.length % 16 + i)) % 16 = l.length % 16 + i by omega] at this
        exact this
      · refine Nat.testBit_lt_two_pow (Nat.lt_of_lt_of_le (Words.at h2 _) ?_)
        exact Nat.le_trans (by decide : 65536 ≤ 2 ^ 16) (Nat.pow_le_pow_right (by omega) (by omega))

/-! ### the keys of a trie -/

/-- A struct of a trie whose bits are right. -/
structure TrieB (T : TrieT) (sh en : List Bool) : Prop where
  n : T.n = sh.length
  m : T.m = en.length
  ws : ∃ w, T.ws = w.map Int.ofNat ∧ BitsAre w sh
  es : ∃ e, T.es = e.map Int.ofNat ∧ BitsAre e en

theorem map_ofNat_inj {a b : List Nat} (h : a.map Int.ofNat = b.map Int.ofNat) : a = b := by
  have h1 := congrArg (List.map Int.toNat) h
  simpa [List.map_map, Function.comp_def] using h1
theorem TrieIs.bits {T : TrieT} {keys : List Str} (h : TrieIs T keys) : TrieB T (shapeOf (children (nodesOf keys)) (nodesOf keys)) (endsOf keys (nodesOf keys)) := by
  obtain ⟨_, w, e, rfl, h1, h2⟩ := h
  exact ⟨rfl, rfl, ⟨w, rfl, h1⟩, ⟨e, rfl, h2⟩⟩
theorem TrieB.uniq {T : TrieT} {sh en sh' en' : List Bool} (h : TrieB T sh en) (h' : TrieB T sh' en') : sh = sh' ∧ en = en' := by
  obtain ⟨w, e1, b1⟩ := h.ws
  obtain ⟨w', e1', b1'⟩ := h'.ws
  obtain ⟨e, e2, b2⟩ := h.es
  obtain ⟨e', e2', b2'⟩ := h'.es
  have hw : w = w' := map_ofNat_inj (e1.symm.trans e1')
  have he : e = e' := map_ofNat_inj (e2.symm.trans e2')
  subst hw; subst he
  have h1 := h.n; have h2 := h'.n; have h3 := h.m; have h4 := h'.m
  exact ⟨b1.inj b1' (by omega), b2.inj b2' (by omega)⟩
/-- What a trie of keys is, told by its bits. -/
theorem TrieB.is_iff {T : TrieT} {sh en : List Bool} (h : TrieB T sh en) {keys : List Str} : TrieIs T keys ↔ areKeys keys = true ∧ sh = shapeOf (children (nodesOf keys)) (nodesOf keys) ∧ en = endsOf keys (nodesOf keys) ∧ T.lb = labelsOf (nodesOf keys) := by
  constructor
  · intro h'
    obtain ⟨h1, h2⟩ := h.uniq h'.bits
    obtain ⟨hk, w, e, rfl, _⟩ := h'
    exact ⟨hk, h1, h2, rfl⟩
  · rintro ⟨hk, rfl, rfl, hl⟩
    obtain ⟨w, e1, b1⟩ := h.ws
    obtain ⟨e, e2, b2⟩ := h.es
    have h1 := h.n; have h2 := h.m
    refine ⟨hk, w, e, ?_, b1, b2⟩
    cases T
    simp only at *
    subst h1; subst h2; subst e1; subst e2; subst hl
    rfl
theorem nodesOf_cap {keys : List Str} (hk : areKeys keys = true) {cap : Nat} (hc : 12 ≤ cap) : ∀ s ∈ nodesOf keys, s.length ≤ cap := fun s hs => Nat.le_trans ((nodesOf_len hk).2 s hs) hc
theorem TrieIs.uniq {T : TrieT} {a b : List Str} (ha : TrieIs T a) (hb : TrieIs T b) : a = b := by
  have h1 := (ha.bits.is_iff (keys := a)).mp ha
  have h2 := (ha.bits.is_iff (keys := b)).mp hb
  have r1 := rd_trie (nodesOf_cap ha.1 (Nat.le_refl _))
  have r2 := rd_trie (nodesOf_cap hb.1 (Nat.le_refl _))
  rw [← h2.2.1, ← h2.2.2.2, h1.2.2.2, r1] at r2
  have hn : nodesOf a = nodesOf b := (RdS.mk.inj (Option.some.inj r2)).2
  have hp : pick (endsOf a (nodesOf a)) (nodesOf a) = pick (endsOf b (nodesOf b)) (nodesOf b) := by
    rw [← h2.2.2.1, hn]
  rw [pick_ends, pick_ends] at hp
  rw [← sort_ends ha.1, ← sort_ends hb.1, hp]
theorem trieV_some {T : TrieT} {keys : List Str} : trieV T = some keys ↔ TrieIs T keys := by
  unfold trieV
  constructor
  · intro h
    split at h
    · rename_i hc; cases h; exact hc.choose_spec
    · cases h
  · intro h
    have hc : ∃ keys, TrieIs T keys := ⟨keys, h⟩
    rw [dif_pos hc, hc.choose_spec.uniq h]
theorem trieV_none {T : TrieT} : trieV T = none ↔ ∀ keys, ¬ TrieIs T keys := by
  constructor
  · intro h keys hk
    rw [trieV_some.mpr hk] at h; cases h
  · intro h
    cases hv : trieV T with
    | none => rfl
    | some K => exact absurd (trieV_some.mp hv) (h K)

/-- The struct of a trie in a heap. -/
structure TrieAt (H : AH) (T : TrieT) (v1 v2 : Value) : Prop where
  ws : Ints H v1 T.ws
  es : Ints H v2 T.es
  wl : T.ws.length ≤ 1099511627776
  el : T.es.length ≤ 1099511627776
  ll : T.lb.length ≤ 1099511627776
def trieC (T : TrieT) (v1 v2 : Value) : List Value := [.int .i64 T.n, v1, .int .i64 T.m, v2, sv T.lb]
theorem TrieAt.kp {H H' : AH} {T : TrieT} {v1 v2 : Value} (h : TrieAt H T v1 v2) (hk : Kp H H') : TrieAt H' T v1 v2 := ⟨h.ws.kp hk, h.es.kp hk, h.wl, h.el, h.ll⟩

theorem pick_take {ends : List Bool} {nodes : List Str} {k : Nat} (hk : k < nodes.length) : pick ends (nodes.take (k + 1)) = pick ends (nodes.take k) ++ (if ends.getD k false = true then [nodes.getD k default] else []) := by
  induction nodes generalizing ends k with
  | nil => simp at hk
  | cons a r ih =>
    cases ends with
    | nil => simp [pick]
    | cons e es =>
      cases k with
      | zero => cases e <;> simp [pick]
      | succ k =>
        have := ih (ends := es) (k := k) (by simpa using hk)
        simp only [List.take_succ_cons, pick, List.zip_cons_cons, List.filter_cons] at this ⊢
        cases e with
        | true => simp only [if_true, List.map_cons, this, List.cons_append]; simp
        | false => simp only [Bool.false_eq_true, if_false, this]; simp
end Go.AE
set_option linter.unusedVariables false
set_option linter.unusedSimpArgs false
namespace Go.AE
variable {H : AH}

theorem trie_ld {T : TrieT} {v1 v2 : Value} {b es : Nat} (hg : H.get b = some ⟨trieC T v1 v2, es⟩) :
    opLoad none (.pointer (some ⟨b, 0, none⟩)) H = some (.int .i64 T.n) ∧ opLoad none (.pointer (some ⟨b, 1, none⟩)) H = some v1 ∧ opLoad none (.pointer (some ⟨b, 2, none⟩)) H = some (.int .i64 T.m) ∧
    opLoad none (.pointer (some ⟨b, 3, none⟩)) H = some v2 ∧ opLoad none (.pointer (some ⟨b, 4, none⟩)) H = some (sv T.lb) ∧ opLoad (some 2) (.pointer (some ⟨b, 0, none⟩)) H = some (.agg #[.int .i64 T.n, v1]) ∧
    opLoad (some 2) (.pointer (some ⟨b, 2, none⟩)) H = some (.agg #[.int .i64 T.m, v2]) ∧ opLoad (some 5) (.pointer (some ⟨b, 0, none⟩)) H = some (.agg #[.int .i64 T.n, v1, .int .i64 T.m, v2, sv T.lb]) := by
  have h := load_at hg
  refine ⟨h.1, h.1, h.1, h.1, h.1, ?_, ?_, ?_⟩
  · rw [h.2, oAgg_at (by simp [trieC])]; rfl
  · rw [h.2, oAgg_at (by simp [trieC])]; rfl
  · rw [h.2, oAgg_at (by simp [trieC])]; rfl

theorem ends_ok {b es : Nat} {T : TrieT} {v1 v2 w : Value} {sh en : List Bool} {nodes : List Str} (hL : Wf H) (hg : H.get b = some ⟨trieC T v1 v2, es⟩) (hT : TrieAt H T v1 v2) (hB : TrieB T sh en) (hm : en.length ≤ 4096)
    (hS : Strs H w nodes) (hn : nodes.length ≤ 8192) :
    ACalls Ez n_i_Trie_ends [.pointer (some ⟨b, 0, none⟩), w] H (fun v' H' => Own sv H.size H' v' ((pick en nodes).mergeSort leS) ∧ Kp H H') := by
  refine k_i_Trie_ends rfl ?_
  have hwf : H.lo ≤ H.size := hL
  obtain ⟨e, he, hbe⟩ := hB.es
  have hmm := hB.m
  simp (disch := first | omega | assumption | (simp only [size_alloc, size_put] <;> omega) | (simp only [RK, Nat.reduceAdd] <;> omega) | fail) only [R1, R, Nat.reduceBEq, Nat.reduceAdd, b_i_Trie_ends, hS.r]
  refine AWP_for nodes.length (fun k t H' => ∃ u, t 5 = u ∧ Kp H H' ∧ Own sv H.size H' u (pick en (nodes.take k))) rfl rfl (by omega) ⟨_, rfl, Kp.refl.alloc, .zero (Nat.le_refl _)⟩ rfl ?_ ?_
  · rintro k t H1 hk hi hn' hT' ⟨u, h5, hK, hO⟩
    have h0 : t 0 = .pointer (some ⟨b, 0, none⟩) := hT' 0 rfl
    have h9 : t 9 = w := hT' 9 rfl
    have hg1 := hK.get hg
    have hE : Nats H1 v2 e := ints_nats.mp (he ▸ (hT.kp hK).es)
    have hpl : (pick en (nodes.take k)).length ≤ k := by
      unfold pick
      rw [List.length_map]
      refine Nat.le_trans (List.length_filter_le _ _) ?_
      rw [List.length_zip, List.length_take]; omega
    have hld := trie_ld hg1
    simp (disch := first | omega | assumption | (simp only [size_alloc, size_put] <;> omega) | (simp only [RK, Nat.reduceAdd] <;> omega) | fail) only [R1, R, Nat.reduceBEq, Nat.reduceAdd, L_i_Trie_ends_0, hi, h0, h9, (hS.kp hK).r, hld.2.2.1, hmm]
    have hskip : en.getD k false = false → pick en (nodes.take (k + 1)) = pick en (nodes.take k) := by
      intro h; rw [pick_take hk, h]; simp
    refine AGd_split (fun h => ?_) (fun h => ?_)
    · have h' := h
      simp only [decide_eq_true_eq] at h'
      have hlt : k < en.length := by omega
      simp (disch := first | omega | assumption | (simp only [size_alloc, size_put] <;> omega) | (simp only [RK, Nat.reduceAdd] <;> omega) | fail) only [R1, R, Nat.reduceBEq, Nat.reduceAdd, h, h0, at_eq (o := 2) hld.2.2.2.1 hE hbe.2.1 (show k / 16 < e.length by rw [hbe.1]; omega) (by omega), hbe.2.2]
      refine ACond_split (fun hb => ?_) (fun hb => ?_)
      · obtain ⟨u', H2, e2, hO2, hX, _⟩ := append_1 (bytes := 16) (a := nodes.getD k default) hO (by rw [hK.lo]; exact hwf) (fun _ => sv_one) (by omega) hK.size
        simp (disch := first | omega | assumption | (simp only [size_alloc, size_put] <;> omega) | (simp only [RK, Nat.reduceAdd] <;> omega) | fail) only [R1, R, Nat.reduceBEq, Nat.reduceAdd, h5, e2]
        refine ⟨_, rfl, hK.app hX hO.2, ?_⟩
        rw [pick_take hk, if_pos hb]; exact hO2
      · simp (disch := first | omega | assumption | (simp only [size_alloc, size_put] <;> omega) | (simp only [RK, Nat.reduceAdd] <;> omega) | fail) only [R1, R, Nat.reduceBEq, Nat.reduceAdd]
        exact ⟨_, h5, hK, by rw [hskip hb]; exact hO⟩
    · have h' := h
      simp only [decide_eq_false_iff_not] at h'
      simp (disch := first | omega | assumption | (simp only [size_alloc, size_put] <;> omega) | (simp only [RK, Nat.reduceAdd] <;> omega) | fail) only [R1, R, Nat.reduceBEq, Nat.reduceAdd, h]
      refine ⟨_, h5, hK, ?_⟩
      rw [hskip (by rw [List.getD, List.getElem?_eq_none (by omega)]; rfl)]; exact hO
  · rintro t H1 hi hn' hT' ⟨u, h5, hK, hO⟩
    rw [List.take_length] at hO
    obtain ⟨H2, e2, hO2, hX⟩ := extTurn_ok (g := fun l => l.mergeSort leS) hO (by rw [hK.lo]; exact hwf) (List.length_mergeSort _) (by simp) (by
      unfold pick
      rw [List.length_map]
      refine Nat.le_trans (List.length_filter_le _ _) ?_
      rw [List.length_zip]; omega)
    simp (disch := first | omega | assumption | (simp only [size_alloc, size_put] <;> omega) | (simp only [RK, Nat.reduceAdd] <;> omega) | fail) only [R1, R, Nat.reduceBEq, Nat.reduceAdd, h5]
    refine ACalls_ext (v := .tuple #[]) (H' := H2) rfl ?_ ?_
    · show (match extTurn (fun l => l.mergeSort leS) u H1 with | some H' => some (Value.tuple #[], H') | none => none) = _
      rw [e2]
    · simp (disch := first | omega | assumption | (simp only [size_alloc, size_put] <;> omega) | (simp only [RK, Nat.reduceAdd] <;> omega) | fail) only [R1, R, Nat.reduceBEq, Nat.reduceAdd, h5]
      exact ⟨hO2, hK.app hX hO.2⟩

/-- One more bit of the shape. -/
theorem rd_next {cap : Nat} {lb : Str} {sh : List Bool} {k : Nat} {st : RdS} (hk : k < sh.length) (h : rdRun cap lb (sh.take k) ⟨0, [[]]⟩ = some st) : rdRun cap lb (sh.take (k + 1)) ⟨0, [[]]⟩ = rdStep cap lb st (sh.getD k false) := by
  have e : sh.take (k + 1) = sh.take k ++ [sh.getD k false] := by
    rw [take_succ_getD hk]; simp [List.getD, List.getElem?_eq_getElem hk]
  rw [e, rdRun_snoc, h]
theorem rd_pre {cap : Nat} {lb : Str} {sh : List Bool} {k : Nat} (h : rdRun cap lb (sh.take k) ⟨0, [[]]⟩ = none) : rdRun cap lb sh ⟨0, [[]]⟩ = none := by
  rw [← List.take_append_drop k sh, rdRun_app, h]
theorem TrieB.none_of {T : TrieT} {sh en : List Bool} (h : TrieB T sh en) {cap : Nat} (hc : 12 ≤ cap) (hr : rdRun cap T.lb sh ⟨0, [[]]⟩ = none) : trieV T = none := by
  rw [trieV_none]
  intro keys hk
  have h2 := h.is_iff.mp hk
  rw [h2.2.1, h2.2.2.2, rd_trie (nodesOf_cap hk.1 hc)] at hr
  cases hr
theorem TrieB.at_of {T : TrieT} {sh en : List Bool} (h : TrieB T sh en) {cap : Nat} (hc : 12 ≤ cap) {st : RdS} (hr : rdRun cap T.lb sh ⟨0, [[]]⟩ = some st) {keys : List Str} (hk : TrieIs T keys) : st.out = nodesOf keys ∧ pick en st.out = (nodesOf keys).filter keys.contains ∧ en.length = (nodesOf keys).length := by
  have h2 := h.is_iff.mp hk
  rw [h2.2.1, h2.2.2.2, rd_trie (nodesOf_cap hk.1 hc)] at hr
  cases hr
  exact ⟨rfl, by rw [h2.2.2.1, pick_ends], by rw [h2.2.2.1]; simp [endsOf]⟩

/-- What is not right at the start. -/
def trieHead (T : TrieT) : Bool := isBits T.n T.ws && (isBits T.m T.es && (decide (T.n = 2 * T.m - 1) && decide ((T.lb.length : Int) = T.m - 1)))
theorem labelsOf_length {nodes : List Str} : (labelsOf nodes).length = nodes.length - 1 := by simp [labelsOf]
theorem shapeOf_length {keys : List Str} : (shapeOf (children (nodesOf keys)) (nodesOf keys)).length = 2 * (nodesOf keys).length - 1 := by
  have key : ∀ k, k ≤ (nodesOf keys).length → (shapeOf (children (nodesOf keys)) ((nodesOf keys).take k)).length = k + before (nodesOf keys) k := by
    intro k
    induction k with
    | zero => intro _; simp [shapeOf, before]
    | succ k ih =>
      intro hk
      rw [shapeOf_take (by omega), List.length_append, ih (by omega), before_succ (by omega), List.length_append, List.length_replicate, children_kids]
      simp; omega
  have h := key _ (Nat.le_refl _)
  have h2 := @before_all keys
  rw [List.take_length] at h
  omega
theorem TrieIs.head {T : TrieT} {keys : List Str} (h : TrieIs T keys) : trieHead T = true := by
  obtain ⟨hk, w, e, rfl, h1, h2⟩ := h
  have hl := nodesOf_len hk
  have hs := @shapeOf_length keys
  have hp : 0 < (nodesOf keys).length := by obtain ⟨r, hr, _⟩ := @nodesOf_head keys; rw [hr]; simp
  have he : (endsOf keys (nodesOf keys)).length = (nodesOf keys).length := by simp [endsOf]
  simp only [trieHead, Bool.and_eq_true, decide_eq_true_eq, labelsOf_length]
  refine ⟨bits_isBits h1 (by omega), bits_isBits h2 (by omega), by omega, by omega⟩
theorem head_none {T : TrieT} (h : trieHead T = false) : trieV T = none := by
  rw [trieV_none]
  intro keys hk
  rw [hk.head] at h; cases h
theorem head_bits {T : TrieT} (h : trieHead T = true) : ∃ sh en, TrieB T sh en ∧ sh.length ≤ 4096 ∧ en.length ≤ 4096 ∧ (sh.length : Int) = 2 * en.length - 1 ∧ (T.lb.length : Int) = en.length - 1 := by
  simp only [trieHead, Bool.and_eq_true, decide_eq_true_eq] at h
  obtain ⟨h1, h2, h3, h4⟩ := h
  obtain ⟨sh, w, n1, l1, e1, b1⟩ := isBits_bits h1
  obtain ⟨en, e, n2, l2, e2, b2⟩ := isBits_bits h2
  exact ⟨sh, en, ⟨n1, n2, ⟨w, e1, b1⟩, ⟨e, e2, b2⟩⟩, l1, l2, by omega, by omega⟩

/-- The nodes of a trie, or nothing. -/
def NodesP (H : AH) (T : TrieT) : CPost := fun v' H' => Kp H H' ∧ match trieV T with
  | some keys => Own sv H.size H' v' (nodesOf keys)
  | none => v' = .slice none 0 0
theorem NodesP.no {H H' : AH} {T : TrieT} (hK : Kp H H') (h : trieV T = none) : NodesP H T (.slice none 0 0) H' := by
  refine ⟨hK, ?_⟩; rw [h]
end Go.AE
set_option linter.unusedVariables false
set_option linter.unusedSimpArgs false
namespace Go.AE
variable {H : AH}

theorem isBits_range {n : Int} {ws : List Int} (h : isBits n ws = true) : 0 ≤ n ∧ n ≤ 4096 := by
  simp only [isBits, Bool.and_eq_true, decide_eq_true_eq] at h
  exact h.1

theorem same_is {T : TrieT} {K : List Str} {w1 w2 : List Nat} (hk : areKeys K = true) (h1 : BitsAre w1 (shapeOf (children (nodesOf K)) (nodesOf K))) (h2 : BitsAre w2 (endsOf K (nodesOf K))) :
    TrieIs T K ↔ (((shapeOf (children (nodesOf K)) (nodesOf K)).length : Int) = T.n ∧ w1.map Int.ofNat = T.ws) ∧ (((endsOf K (nodesOf K)).length : Int) = T.m ∧ w2.map Int.ofNat = T.es) ∧ labelsOf (nodesOf K) = T.lb := by
  constructor
  · rintro ⟨_, w, e, rfl, b1, b2⟩
    exact ⟨⟨rfl, by rw [b1.uniq h1]⟩, ⟨rfl, by rw [b2.uniq h2]⟩, rfl⟩
  · rintro ⟨⟨a, b⟩, ⟨c, d⟩, e⟩
    refine ⟨hk, w1, w2, ?_, h1, h2⟩
    cases T; simp only at *; subst a; subst b; subst c; subst d; subst e; rfl
theorem nodes_ok {b es : Nat} {T : TrieT} {v1 v2 : Value} (hL : Wf H) (hg : H.get b = some ⟨trieC T v1 v2, es⟩) (hT : TrieAt H T v1 v2) :
    ACalls Ez n_i_Trie_nodes [.pointer (some ⟨b, 0, none⟩)] H (NodesP H T) := by
  refine k_i_Trie_nodes rfl ?_
  have hwf : H.lo ≤ H.size := hL
  have hld := trie_ld hg
  have hll := hT.ll
  simp (disch := first | omega | assumption | (simp only [size_alloc, size_put] <;> omega) | (simp only [RK, Nat.reduceAdd] <;> omega) | fail) only [R1, R, Nat.reduceBEq, Nat.reduceAdd, b_i_Trie_nodes, hld]
  refine IsBits_ret hT.ws hT.wl fun H1 hK1 => ?_
  cases hb1 : isBits T.n T.ws with
  | false =>
    simp (disch := first | omega | assumption | (simp only [size_alloc, size_put] <;> omega) | (simp only [RK, Nat.reduceAdd] <;> omega) | fail) only [R1, R, Nat.reduceBEq, Nat.reduceAdd]
    exact .no hK1 (head_none (by simp [trieHead, hb1]))
  | true =>
  have hr1 := isBits_range hb1
  have hld1 := trie_ld (hK1.get hg)
  have hT1 := hT.kp hK1
  simp (disch := first | omega | assumption | (simp only [size_alloc, size_put] <;> omega) | (simp only [RK, Nat.reduceAdd] <;> omega) | fail) only [R1, R, Nat.reduceBEq, Nat.reduceAdd, hld1]
  refine IsBits_ret hT1.es hT1.el fun H2 hK2 => ?_
  have hK02 := hK1.trans hK2
  have hld2 := trie_ld (hK02.get hg)
  cases hb2 : isBits T.m T.es with
  | false =>
    simp (disch := first | omega | assumption | (simp only [size_alloc, size_put] <;> omega) | (simp only [RK, Nat.reduceAdd] <;> omega) | fail) only [R1, R, Nat.reduceBEq, Nat.reduceAdd]
    exact .no hK02 (head_none (by simp [trieHead, hb1, hb2]))
  | true =>
  have hr2 := isBits_range hb2
  simp (disch := first | omega | assumption | (simp only [size_alloc, size_put] <;> omega) | (simp only [RK, Nat.reduceAdd] <;> omega) | fail) only [R1, R, Nat.reduceBEq, Nat.reduceAdd, hld2]
  cases hb3 : decide (T.n = 2 * T.m - 1) with
  | false =>
    simp (disch := first | omega | assumption | (simp only [size_alloc, size_put] <;> omega) | (simp only [RK, Nat.reduceAdd] <;> omega) | fail) only [R1, R, Nat.reduceBEq, Nat.reduceAdd]
    exact .no hK02 (head_none (by simp only [trieHead, hb1, hb2, hb3]; rfl))
  | true =>
  simp (disch := first | omega | assumption | (simp only [size_alloc, size_put] <;> omega) | (simp only [RK, Nat.reduceAdd] <;> omega) | fail) only [R1, R, Nat.reduceBEq, Nat.reduceAdd, hld2]
  cases hb4 : decide ((T.lb.length : Int) = T.m - 1) with
  | false =>
    simp (disch := first | omega | assumption | (simp only [size_alloc, size_put] <;> omega) | (simp only [RK, Nat.reduceAdd] <;> omega) | fail) only [R1, R, Nat.reduceBEq, Nat.reduceAdd]
    exact .no hK02 (head_none (by simp only [trieHead, hb1, hb2, hb3, hb4]; rfl))
  | true =>
  have hhead : trieHead T = true := by simp only [trieHead, hb1, hb2, hb3, hb4]; rfl
  obtain ⟨sh, en, hB, hl1, hl2, hl3, hl4⟩ := head_bits hhead
  have hnn := hB.n
  have hmm := hB.m
  obtain ⟨w, hw, hbw⟩ := hB.ws
  have hK03 : Kp H (H2.alloc ⟨[sv []], 1⟩) := hK02.alloc
  have hL2 := hK02.wf hL
  have hs02 := hK02.size
  have hlo2 : H2.lo ≤ H2.size := hL2
  have hbs := get_lt (hK02.get hg)
  simp (disch := first | omega | assumption | (simp only [size_alloc, size_put] <;> omega) | (simp only [RK, Nat.reduceAdd] <;> omega) | fail) only [R1, R, Nat.reduceBEq, Nat.reduceAdd, hld2, hnn]
  refine AWP_for sh.length (fun k t H' => ∃ st u, t 4 = .int .i64 (st.at_ : Nat) ∧ t 3 = u ∧ Kp H2 H' ∧ Own sv H2.size H' u st.out ∧ rdRun 12 T.lb (sh.take k) ⟨0, [[]]⟩ = some st ∧ st.at_ ≤ k ∧ st.out.length ≤ k + 1 ∧ ∀ s ∈ st.out, s.length ≤ 12)
    rfl rfl (by omega) ⟨⟨0, [[]]⟩, _, rfl, rfl, Kp.refl.alloc, .one1 (Nat.le_refl _), rfl, Nat.le_refl _, Nat.le_refl _, by simp⟩ rfl ?_ ?_
  · rintro k t H3 hk hi hn' hT' ⟨st, u, h4, h3, hK, hO, hrd, hat, hol, hdep⟩
    have h0 : t 0 = .pointer (some ⟨b, 0, none⟩) := hT' 0 rfl
    have hld3 := trie_ld ((hK02.trans hK).get hg)
    have hE : Nats H3 v1 w := ints_nats.mp (hw ▸ (hT.kp (hK02.trans hK)).ws)
    have hnext := rd_next hk hrd
    have hbit : sh.getD k false = bitAt w k := (hbw.2.2 k).symm
    simp (disch := first | omega | assumption | (simp only [size_alloc, size_put] <;> omega) | (simp only [RK, Nat.reduceAdd] <;> omega) | fail) only [R1, R, Nat.reduceBEq, Nat.reduceAdd, L_i_Trie_nodes_0, hi, h0, h3, h4, hO.1.r]
    refine ACond_split (fun hc => ?_) (fun hc => ?_)
    · simp only [decide_eq_true_eq] at hc
      have hnone : trieV T = none := hB.none_of (cap := 12) (Nat.le_refl _) (rd_pre (k := k + 1) (by rw [hnext, rdStep, if_pos (by omega)]))
      simp (disch := first | omega | assumption | (simp only [size_alloc, size_put] <;> omega) | (simp only [RK, Nat.reduceAdd] <;> omega) | fail) only [R1, R, Nat.reduceBEq, Nat.reduceAdd]
      exact .no (hK02.trans hK) hnone
    · simp only [decide_eq_false_iff_not] at hc
      have hc' : ¬ st.out.length ≤ st.at_ := by omega
      simp (disch := first | omega | assumption | (simp only [size_alloc, size_put] <;> omega) | (simp only [RK, Nat.reduceAdd] <;> omega) | fail) only [R1, R, Nat.reduceBEq, Nat.reduceAdd, h0, at_eq (o := 0) hld3.2.1 hE hbw.2.1 (show k / 16 < w.length by rw [hbw.1]; omega) (by omega)]
      cases hbk : bitAt w k with
      | false =>
        simp (disch := first | omega | assumption | (simp only [size_alloc, size_put] <;> omega) | (simp only [RK, Nat.reduceAdd] <;> omega) | fail) only [R1, R, Nat.reduceBEq, Nat.reduceAdd, h4]
        refine ⟨⟨st.at_ + 1, st.out⟩, u, rfl, h3, hK, hO, ?_, by simp only; omega, by simp only; omega, hdep⟩
        rw [hnext, hbit, hbk, rdStep, if_neg hc', if_pos rfl]
      | true =>
        have hstep : rdStep 12 T.lb st true = if T.lb.length < st.out.length ∨ (st.out.getD st.at_ default).length = 12 then none else some ⟨st.at_, st.out ++ [st.out.getD st.at_ default ++ [T.lb.getD (st.out.length - 1) default]]⟩ := by
          rw [rdStep, if_neg hc', if_neg (by simp)]
        have hno : T.lb.length < st.out.length ∨ (st.out.getD st.at_ default).length = 12 → trieV T = none := by
          intro h
          exact hB.none_of (cap := 12) (Nat.le_refl _) (rd_pre (k := k + 1) (by rw [hnext, hbit, hbk, hstep, if_pos h]))
        simp (disch := first | omega | assumption | (simp only [size_alloc, size_put] <;> omega) | (simp only [RK, Nat.reduceAdd] <;> omega) | fail) only [R1, R, Nat.reduceBEq, Nat.reduceAdd, h0, h3, h4, hld3, hO.1.r]
        cases hd1 : decide ((T.lb.length : Int) < st.out.length) with
        | true =>
          simp only [decide_eq_true_eq] at hd1
          simp (disch := first | omega | assumption | (simp only [size_alloc, size_put] <;> omega) | (simp only [RK, Nat.reduceAdd] <;> omega) | fail) only [R1, R, Nat.reduceBEq, Nat.reduceAdd]
          exact .no (hK02.trans hK) (hno (.inl (by omega)))
        | false =>
        simp only [decide_eq_false_iff_not] at hd1
        simp (disch := first | omega | assumption | (simp only [size_alloc, size_put] <;> omega) | (simp only [RK, Nat.reduceAdd] <;> omega) | fail) only [R1, R, Nat.reduceBEq, Nat.reduceAdd, h3, h4, hO.1.r]
        refine ACond_split (fun hd2 => ?_) (fun hd2 => ?_)
        · simp only [decide_eq_true_eq] at hd2
          simp (disch := first | omega | assumption | (simp only [size_alloc, size_put] <;> omega) | (simp only [RK, Nat.reduceAdd] <;> omega) | fail) only [R1, R, Nat.reduceBEq, Nat.reduceAdd]
          exact .no (hK02.trans hK) (hno (.inr (by omega)))
        · simp only [decide_eq_false_iff_not] at hd2
          have hatl : st.at_ < st.out.length := by omega
          have hdl : (st.out.getD st.at_ default).length ≤ 12 := by rw [getD_eq hatl]; exact hdep _ (List.getElem_mem hatl)
          have hpos : 0 < st.out.length := by omega
          have hsl : (T.lb.take st.out.length).drop (st.out.length - 1) = [T.lb.getD (st.out.length - 1) default] := by
            have h1 : st.out.length - 1 < T.lb.length := by omega
            have e : T.lb.take st.out.length = T.lb.take (st.out.length - 1) ++ [T.lb.getD (st.out.length - 1) default] := by
              rw [← take_succ_getD h1]; congr 1; omega
            rw [e, List.drop_append_of_le_length (by rw [List.length_take]; omega), List.drop_of_length_le (by rw [List.length_take]; omega), List.nil_append]
          have ed : ((st.out.length : Int) - 1).toNat = st.out.length - 1 := by omega
          obtain ⟨u', H4, e4, hO4, hX, _⟩ := append_1 (bytes := 16) (a := st.out.getD st.at_ default ++ [T.lb.getD (st.out.length - 1) default]) hO (by rw [hK.lo]; exact hlo2) (fun _ => sv_one) (by omega) hK.size
          simp (disch := first | omega | assumption | (simp only [size_alloc, size_put] <;> omega) | (simp only [RK, Nat.reduceAdd, List.length_singleton] <;> omega) | fail) only [R1, R, Nat.reduceBEq, Nat.reduceAdd, h0, h3, h4, hld3, hO.1.r, ed, hsl, e4, List.length_singleton]
          refine ⟨⟨st.at_, st.out ++ [st.out.getD st.at_ default ++ [T.lb.getD (st.out.length - 1) default]]⟩, _, rfl, rfl, hK.app hX hO.2, hO4, ?_, by simp only; omega, by simp; omega, ?_⟩
          · rw [hnext, hbit, hbk, hstep, if_neg (by rintro (h | h) <;> omega)]
          · intro s hs
            rcases List.mem_append.mp hs with hs | hs
            · exact hdep s hs
            · rw [List.mem_singleton] at hs; rw [hs, List.length_append, List.length_singleton]; omega
  · rintro t H3 hi hn' hT' ⟨st, u, h4, h3, hK, hO, hrd, hat, hol, hdep⟩
    rw [List.take_length] at hrd
    have h0 : t 0 = .pointer (some ⟨b, 0, none⟩) := hT' 0 rfl
    have hKH3 := hK02.trans hK
    have hg3 := hKH3.get hg
    have hT3 := hT.kp hKH3
    simp (disch := first | omega | assumption | (simp only [size_alloc, size_put] <;> omega) | (simp only [RK, Nat.reduceAdd] <;> omega) | fail) only [R1, R, Nat.reduceBEq, Nat.reduceAdd, h0, h3]
    refine (ends_ok (hKH3.wf hL) hg3 hT3 hB hl2 hO.1 (by omega)).imp ?_
    rintro uk H4 ⟨hOk, hK4⟩
    have hKH4 := hKH3.trans hK4
    have hld4 := trie_ld (hKH4.get hg)
    have hkl : ((pick en st.out).mergeSort leS).length ≤ 4097 := by
      rw [List.length_mergeSort]
      unfold pick
      rw [List.length_map]
      refine Nat.le_trans (List.length_filter_le _ _) ?_
      rw [List.length_zip]; omega
    have hkS : AllS ((pick en st.out).mergeSort leS) := by
      refine ⟨by omega, fun s hs => ?_⟩
      rw [List.mem_mergeSort] at hs
      unfold pick at hs
      obtain ⟨p, hp, rfl⟩ := List.mem_map.mp hs
      have := hdep p.1 (List.of_mem_zip (List.mem_filter.mp hp).1).1
      omega
    -- what a trie's would be
    have hof : ∀ keys, TrieIs T keys → st.out = nodesOf keys ∧ (pick en st.out).mergeSort leS = keys ∧ st.out.length = en.length := by
      intro keys hk
      obtain ⟨h1, h2, h3⟩ := hB.at_of (Nat.le_refl _) hrd hk
      refine ⟨h1, ?_, by rw [h3, h1]⟩
      rw [h2, sort_ends hk.1]
    simp (disch := first | omega | assumption | (simp only [size_alloc, size_put] <;> omega) | (simp only [RK, Nat.reduceAdd] <;> omega) | fail) only [R1, R, Nat.reduceBEq, Nat.reduceAdd, h0, h3, hO.1.r, hld4, hmm]
    cases hd1 : decide ((st.out.length : Int) = en.length) with
    | false =>
      simp only [decide_eq_false_iff_not] at hd1
      simp (disch := first | omega | assumption | (simp only [size_alloc, size_put] <;> omega) | (simp only [RK, Nat.reduceAdd] <;> omega) | fail) only [R1, R, Nat.reduceBEq, Nat.reduceAdd]
      refine .no hKH4 (trieV_none.mpr fun keys hk => hd1 ?_)
      rw [(hof keys hk).2.2]
    | true =>
    simp (disch := first | omega | assumption | (simp only [size_alloc, size_put] <;> omega) | (simp only [RK, Nat.reduceAdd] <;> omega) | fail) only [R1, R, Nat.reduceBEq, Nat.reduceAdd, AreKeys_eq hOk.1 hkS]
    cases hd2 : areKeys ((pick en st.out).mergeSort leS) with
    | false =>
      simp (disch := first | omega | assumption | (simp only [size_alloc, size_put] <;> omega) | (simp only [RK, Nat.reduceAdd] <;> omega) | fail) only [R1, R, Nat.reduceBEq, Nat.reduceAdd]
      refine .no hKH4 (trieV_none.mpr fun keys hk => ?_)
      rw [(hof keys hk).2.1, hk.1] at hd2
      cases hd2
    | true =>
    simp (disch := first | omega | assumption | (simp only [size_alloc, size_put] <;> omega) | (simp only [RK, Nat.reduceAdd] <;> omega) | fail) only [R1, R, Nat.reduceBEq, Nat.reduceAdd]
    refine (trie_ok (hKH4.wf hL) hOk.1 hd2).imp ?_
    rintro v5 H5 ⟨x1, w1, x2, w2, rfl, hsp5, hb5, hc5, hK5⟩
    have hx1 : Nats H5 x1 w1 := hsp5.get 0 rfl
    have hx2 : Nats H5 x2 w2 := hsp5.get 1 rfl
    have ho1 := hx1.one
    have ho2 := hx2.one
    have hKH5 := hKH4.trans hK5
    have hL5 : Wf H5 := hKH5.wf hL
    have hg5 := hKH5.get hg
    have hbs5 := get_lt hg5
    have hld5 := trie_ld hg5
    have hK6 : Kp H5 (H5.alloc ⟨[.int .i64 (shapeOf (children (nodesOf ((pick en st.out).mergeSort leS))) (nodesOf ((pick en st.out).mergeSort leS))).length, x1, .int .i64 (endsOf ((pick en st.out).mergeSort leS) (nodesOf ((pick en st.out).mergeSort leS))).length, x2, sv (labelsOf (nodesOf ((pick en st.out).mergeSort leS)))], 0⟩) := Kp.refl.alloc
    have hT6 := hT.kp (hKH5.trans hK6)
    have hI1 := ints_nats.mpr (hx1.kp hK6)
    have hI2 := ints_nats.mpr (hx2.kp hK6)
    have hwl1 : (w1.map Int.ofNat).length ≤ 1099511627776 := by
      rw [List.length_map, hb5.1, shapeOf_length]
      have := (nodesOf_len hd2).1
      omega
    have hwl2 : (w2.map Int.ofNat).length ≤ 1099511627776 := by
      rw [List.length_map, hc5.1]
      have := (nodesOf_len hd2).1
      rw [endsOf, List.length_map]; omega
    have hsame := same_is (T := T) hd2 hb5 hc5
    have hno : ∀ {H6}, Kp H H6 → ¬ TrieIs T ((pick en st.out).mergeSort leS) → NodesP H T (.slice none 0 0) H6 := by
      intro H6 hk6 h
      refine .no hk6 (trieV_none.mpr fun keys hk => h ?_)
      rw [(hof keys hk).2.1]; exact hk
    generalize hKs : (pick en st.out).mergeSort leS = K at *
    generalize hH6 : H5.alloc ⟨[.int .i64 (shapeOf (children (nodesOf K)) (nodesOf K)).length, x1, .int .i64 (endsOf K (nodesOf K)).length, x2, sv (labelsOf (nodesOf K))], 0⟩ = H6 at *
    have hg6 : H6.get H5.size = some ⟨trieC ⟨(shapeOf (children (nodesOf K)) (nodesOf K)).length, w1.map Int.ofNat, (endsOf K (nodesOf K)).length, w2.map Int.ofNat, labelsOf (nodesOf K)⟩ x1 x2, 0⟩ := by rw [← hH6]; exact get_alloc_self rfl
    have hg6' := hK6.get hg5
    have hld6 := trie_ld hg6
    have hld6' := trie_ld hg6'
    simp (disch := first | omega | assumption | (simp only [size_alloc, size_put] <;> omega) | (simp only [RK, Nat.reduceAdd, ho1.1, ho1.2, ho2.1, ho2.2] <;> omega) | fail) only [R1, R, Nat.reduceBEq, Nat.reduceAdd, h0, store_all, hH6, hld6, hld6', ho1.1, ho1.2, ho2.1, ho2.2]
    refine (sameBits_ok hI1 hT6.ws hwl1).ret fun H7 hK7 => ?_
    cases hs1 : (decide (((shapeOf (children (nodesOf K)) (nodesOf K)).length : Int) = T.n) && (w1.map Int.ofNat == T.ws)) with
    | false =>
      simp (disch := first | omega | assumption | (simp only [size_alloc, size_put] <;> omega) | (simp only [RK, Nat.reduceAdd] <;> omega) | fail) only [R1, R, Nat.reduceBEq, Nat.reduceAdd]
      refine hno (hKH5.trans (hK6.trans hK7)) fun h => ?_
      have := (hsame.mp h).1
      rw [decide_eq_true this.1, beq_iff_eq.mpr this.2] at hs1
      cases hs1
    | true =>
    have hld7 := trie_ld (hK7.get hg6)
    have hld7' := trie_ld (hK7.get hg6')
    simp (disch := first | omega | assumption | (simp only [size_alloc, size_put] <;> omega) | (simp only [RK, Nat.reduceAdd] <;> omega) | fail) only [R1, R, Nat.reduceBEq, Nat.reduceAdd, h0, hld7, hld7']
    refine (sameBits_ok (hI2.kp hK7) (hT6.kp hK7).es hwl2).ret fun H8 hK8 => ?_
    have hK08 := hKH5.trans (hK6.trans (hK7.trans hK8))
    cases hs2 : (decide (((endsOf K (nodesOf K)).length : Int) = T.m) && (w2.map Int.ofNat == T.es)) with
    | false =>
      simp (disch := first | omega | assumption | (simp only [size_alloc, size_put] <;> omega) | (simp only [RK, Nat.reduceAdd] <;> omega) | fail) only [R1, R, Nat.reduceBEq, Nat.reduceAdd]
      refine hno hK08 fun h => ?_
      have := (hsame.mp h).2.1
      rw [decide_eq_true this.1, beq_iff_eq.mpr this.2] at hs2
      cases hs2
    | true =>
    have hld8 := trie_ld (hK8.get (hK7.get hg6))
    have hld8' := trie_ld (hK8.get (hK7.get hg6'))
    simp (disch := first | omega | assumption | (simp only [size_alloc, size_put] <;> omega) | (simp only [RK, Nat.reduceAdd] <;> omega) | fail) only [R1, R, Nat.reduceBEq, Nat.reduceAdd, h0, hld8, hld8']
    cases hs3 : decide (labelsOf (nodesOf K) = T.lb) with
    | false =>
      simp only [decide_eq_false_iff_not] at hs3
      simp (disch := first | omega | assumption | (simp only [size_alloc, size_put] <;> omega) | (simp only [RK, Nat.reduceAdd] <;> omega) | fail) only [R1, R, Nat.reduceBEq, Nat.reduceAdd]
      exact hno hK08 fun h => hs3 (hsame.mp h).2.2
    | true =>
      simp only [decide_eq_true_eq] at hs3
      simp only [Bool.and_eq_true, decide_eq_true_eq, beq_iff_eq] at hs1 hs2
      have his := hsame.mpr ⟨hs1, hs2, hs3⟩
      simp (disch := first | omega | assumption | (simp only [size_alloc, size_put] <;> omega) | (simp only [RK, Nat.reduceAdd] <;> omega) | fail) only [R1, R, Nat.reduceBEq, Nat.reduceAdd, h3]
      refine ⟨hK08, ?_⟩
      rw [trieV_some.mpr his]
      have hO' := (hO.kp (hK4.trans (hK5.trans (hK6.trans (hK7.trans hK8))))).to hs02
      rw [(hof K his).1] at hO'
      exact hO'
end Go.AE
set_option linter.unusedVariables false
set_option linter.unusedSimpArgs false
namespace Go.AE
variable {H : AH}

theorem scan_spec {l : List Str} {p : Str → Bool} {k : Nat} (hk : k ≤ l.length) (h1 : ∀ j, j < k → p (l.getD j default) = true) (h2 : k < l.length → p (l.getD k default) = false) : l.takeWhile p = l.take k ∧ l.dropWhile p = l.drop k := by
  induction l generalizing k with
  | nil =>
    have : k = 0 := by simpa using hk
    subst this; exact ⟨rfl, rfl⟩
  | cons a l ih =>
    cases k with
    | zero =>
      have : p a = false := h2 (by simp)
      simp [List.takeWhile_cons, List.dropWhile_cons, this]
    | succ k =>
      have ha : p a = true := h1 0 (by omega)
      have := ih (k := k) (by simpa using hk) (fun j hj => h1 (j + 1) (by omega)) (fun hlt => h2 (by simpa using hlt))
      simp [List.takeWhile_cons, List.dropWhile_cons, ha, this]

theorem l1PutS_ok {v : Value} {l : List Str} {s : Str} (hL : Wf H) (hS : Strs H v l) (hl : l.length ≤ 549755813888) :
    ACalls Ez n_s_l1PutS [v, sv s] H (fun v' H' => Strs H' v' (putS l s) ∧ Kp H H') := by
  refine k_s_l1PutS rfl ?_
  have hwf : H.lo ≤ H.size := hL
  simp (disch := first | omega | assumption | (simp only [size_alloc, size_put] <;> omega) | (simp only [RK, Nat.reduceAdd] <;> omega) | fail) only [R1, R, Nat.reduceBEq, Nat.reduceAdd, b_s_l1PutS]
  refine AWP_upS (fun k t H' => t 5 = .int .i64 k ∧ k ≤ l.length ∧ H' = H ∧ ∀ j, j < k → decide (l.getD j default < s) = true) l.length ⟨rfl, Nat.zero_le _, rfl, by omega⟩ ?_
  rintro k t H' hk hT ⟨h5, hkl, rfl, hI⟩
  have h0 : t 0 = v := hT 0 rfl
  have h1 : t 1 = sv s := hT 1 rfl
  -- what the appends make
  have hKA : Kp H' (H'.alloc ⟨[], 1⟩) := Kp.refl.alloc
  obtain ⟨v1, e1, hS1, _⟩ := (hS.kp hKA).take hkl
  obtain ⟨v2, H2, e2, hO2, hX2, _⟩ := append_sl (bytes := 16) (Own.zero (f := sv) (H := H') (Nat.le_refl _)) (by rw [lo_alloc]; exact hwf) hS1 (fun _ => sv_one) (by simp; omega) (by rw [size_alloc]; omega)
  have hK2 : Kp H' H2 := hKA.app hX2 (fun i hi => by cases hi; exact Nat.le_refl _)
  obtain ⟨v3, H3, e3, hO3, hX3, _⟩ := append_1 (bytes := 16) (a := s) hO2 (by rw [hK2.lo]; exact hwf) (fun _ => sv_one) (by simp; omega) hK2.size
  have hK3 : Kp H' H3 := hK2.app hX3 hO2.2
  obtain ⟨v4, e4, hS4, _⟩ := (hS.kp hK3).drop hkl
  obtain ⟨v5, H5, e5, hO5, hX5, _⟩ := append_sl (bytes := 16) hO3 (by rw [hK3.lo]; exact hwf) hS4 (fun _ => sv_one) (by simp; omega) hK3.size
  have hK5 : Kp H' H5 := hK3.app hX5 hO3.2
  have hput : (k < l.length → decide (l.getD k default < s) = false) → putS l s = if k < l.length ∧ l.getD k default = s then l else l.take k ++ s :: l.drop k := by
    intro h
    have hsp := scan_spec (p := fun x => decide (x < s)) hkl hI h
    unfold putS
    simp only [hsp.1, hsp.2]
    by_cases hlt : k < l.length
    · have : (l.drop k).head? = some (l.getD k default) := by
        rw [List.head?_drop, List.getElem?_eq_getElem hlt, getD_eq hlt]
      rw [this]
      simp only [Option.some.injEq, hlt, true_and]
    · have : l.drop k = [] := List.drop_of_length_le (by omega)
      rw [this, if_neg (by simp), if_neg (fun h => hlt h.1)]
  have hfin : (k < l.length → decide (l.getD k default < s) = false) → ¬ (k < l.length ∧ l.getD k default = s) → Strs H5 v5 (putS l s) ∧ Kp H' H5 := by
    intro h1 h2
    rw [hput h1, if_neg h2]
    refine ⟨?_, hK5⟩
    have := hO5.1
    simpa using this
  simp (disch := first | omega | assumption | (simp only [size_alloc, size_put] <;> omega) | (simp only [RK, Nat.reduceAdd] <;> omega) | fail) only [R1, R, Nat.reduceBEq, Nat.reduceAdd, L_s_l1PutS_0, h0, h5, hS.r]
  refine AGd_split (fun hc => ?_) (fun hc => ?_)
  · have hc' := hc
    simp only [decide_eq_true_eq] at hc'
    have hlt : k < l.length := by omega
    simp (disch := first | omega | assumption | (simp only [size_alloc, size_put] <;> omega) | (simp only [RK, Nat.reduceAdd] <;> omega) | fail) only [R1, R, Nat.reduceBEq, Nat.reduceAdd, hc, h0, h1, h5, hS.r]
    refine ACond_split (fun hd => ?_) (fun hd => ?_)
    · simp (disch := first | omega | assumption | (simp only [size_alloc, size_put] <;> omega) | (simp only [RK, Nat.reduceAdd] <;> omega) | fail) only [R1, R, Nat.reduceBEq, Nat.reduceAdd, h5]
      exact ⟨hlt, rfl, hlt, trivial, lt_succ_all hI hd⟩
    · simp (disch := first | omega | assumption | (simp only [size_alloc, size_put] <;> omega) | (simp only [RK, Nat.reduceAdd] <;> omega) | fail) only [R1, R, Nat.reduceBEq, Nat.reduceAdd, h0, h1, h5, hS.r, hc]
      refine ACond_split (fun he => ?_) (fun he => ?_)
      · simp only [decide_eq_true_eq] at he
        simp (disch := first | omega | assumption | (simp only [size_alloc, size_put] <;> omega) | (simp only [RK, Nat.reduceAdd] <;> omega) | fail) only [R1, R, Nat.reduceBEq, Nat.reduceAdd, h0]
        rw [hput (fun _ => hd), if_pos ⟨hlt, he⟩]
        exact ⟨hS, .refl⟩
      · simp only [decide_eq_false_iff_not] at he
        simp (disch := first | omega | assumption | (simp only [size_alloc, size_put] <;> omega) | (simp only [RK, Nat.reduceAdd] <;> omega) | fail) only [R1, R, Nat.reduceBEq, Nat.reduceAdd, h0, h1, h5, e1, e2, e3, e4, e5]
        exact hfin (fun _ => hd) fun h => he h.2
  · have hc' := hc
    simp only [decide_eq_false_iff_not] at hc'
    have hlt : ¬ k < l.length := by omega
    simp (disch := first | omega | assumption | (simp only [size_alloc, size_put] <;> omega) | (simp only [RK, Nat.reduceAdd] <;> omega) | fail) only [R1, R, Nat.reduceBEq, Nat.reduceAdd, h0, h1, h5, hS.r, hc, e1, e2, e3, e4, e5]
    exact hfin (fun h => absurd h hlt) fun h => hlt h.1
end Go.AE
set_option linter.unusedVariables false
set_option linter.unusedSimpArgs false
namespace Go.AE
variable {H : AH}

def PathsP (H : AH) (T : TrieT) (sh en : List Bool) : CPost := fun v' H' => Kp H H' ∧ ∃ w, (v' = .tuple #[w, .bool true] ∧ ∃ st, rdRun 1000000 T.lb sh ⟨0, [[]]⟩ = some st ∧ st.out.length = en.length ∧ Strs H' w st.out ∧ ∀ s ∈ st.out, s.length ≤ 8192) ∨ (v' = .tuple #[w, .bool false] ∧ trieV T = none)
theorem PathsP.no {H H' : AH} {T : TrieT} {sh en : List Bool} {w : Value} (hK : Kp H H') (h : trieV T = none) : PathsP H T sh en (.tuple #[w, .bool false]) H' := ⟨hK, w, .inr ⟨rfl, h⟩⟩
theorem TrieB.head_fail {T : TrieT} (h : ¬ (T.n = 2 * T.m - 1 ∧ (T.lb.length : Int) = T.m - 1)) : trieV T = none := by
  refine head_none ?_
  cases hc : trieHead T with
  | false => rfl
  | true =>
    simp only [trieHead, Bool.and_eq_true, decide_eq_true_eq] at hc
    exact absurd ⟨hc.2.2.1, hc.2.2.2⟩ h

theorem trPaths_ok {T : TrieT} {v1 v2 : Value} {sh en : List Bool} (hL : Wf H) (hT : TrieAt H T v1 v2) (hB : TrieB T sh en) (hl1 : sh.length ≤ 4096) (hl2 : en.length ≤ 4096) :
    ACalls Ez n_s_trPaths [.agg #[.int .i64 T.n, v1, .int .i64 T.m, v2, sv T.lb]] H (PathsP H T sh en) := by
  refine k_s_trPaths rfl ?_
  have hwf : H.lo ≤ H.size := hL
  have hnn := hB.n
  have hmm := hB.m
  have hll := hT.ll
  obtain ⟨w, hw, hbw⟩ := hB.ws
  generalize hHA : H.alloc ⟨[.int .i64 T.n, v1, .int .i64 T.m, v2, sv T.lb], 0⟩ = HA
  have hKA : Kp H HA := by rw [← hHA]; exact Kp.refl.alloc
  have hg : HA.get H.size = some ⟨trieC T v1 v2, 0⟩ := by rw [← hHA]; exact get_alloc_self rfl
  have hld := trie_ld hg
  have hszA : HA.size = H.size + 1 := by rw [← hHA, size_alloc]
  have hloA : HA.lo ≤ H.size := by rw [hKA.lo]; exact hwf
  have hw1 := hT.ws.one
  have hw2 := hT.es.one
  simp (disch := first | omega | assumption | (simp only [size_alloc, size_put] <;> omega) | (simp only [RK, Nat.reduceAdd] <;> omega) | fail) only [R1, R, Nat.reduceBEq, Nat.reduceAdd, b_s_trPaths, hHA, hld]
  simp (disch := first | omega | assumption | (simp only [size_alloc, size_put] <;> omega) | (simp only [RK, Nat.reduceAdd] <;> omega) | fail) only [R1, R, Nat.reduceBEq, Nat.reduceAdd, hnn, hmm]
  cases hd1 : decide ((en.length : Int) = 0) with
  | true =>
    simp only [decide_eq_true_eq] at hd1
    simp (disch := first | omega | assumption | (simp only [size_alloc, size_put] <;> omega) | (simp only [RK, Nat.reduceAdd] <;> omega) | fail) only [R1, R, Nat.reduceBEq, Nat.reduceAdd]
    exact .no hKA (TrieB.head_fail (by rintro ⟨h, h'⟩; omega))
  | false =>
  simp only [decide_eq_false_iff_not] at hd1
  simp (disch := first | omega | assumption | (simp only [size_alloc, size_put] <;> omega) | (simp only [RK, Nat.reduceAdd] <;> omega) | fail) only [R1, R, Nat.reduceBEq, Nat.reduceAdd, hld, hnn, hmm]
  cases hd2 : decide ((sh.length : Int) = 2 * en.length - 1) with
  | false =>
    simp only [decide_eq_false_iff_not] at hd2
    simp (disch := first | omega | assumption | (simp only [size_alloc, size_put] <;> omega) | (simp only [RK, Nat.reduceAdd] <;> omega) | fail) only [R1, R, Nat.reduceBEq, Nat.reduceAdd]
    exact .no hKA (TrieB.head_fail (by rintro ⟨h, h'⟩; omega))
  | true =>
  simp only [decide_eq_true_eq] at hd2
  simp (disch := first | omega | assumption | (simp only [size_alloc, size_put] <;> omega) | (simp only [RK, Nat.reduceAdd] <;> omega) | fail) only [R1, R, Nat.reduceBEq, Nat.reduceAdd, hld, hnn, hmm]
  cases hd3 : decide ((T.lb.length : Int) = en.length - 1) with
  | false =>
    simp only [decide_eq_false_iff_not] at hd3
    simp (disch := first | omega | assumption | (simp only [size_alloc, size_put] <;> omega) | (simp only [RK, Nat.reduceAdd] <;> omega) | fail) only [R1, R, Nat.reduceBEq, Nat.reduceAdd]
    exact .no hKA (TrieB.head_fail (by rintro ⟨h, h'⟩; omega))
  | true =>
  simp only [decide_eq_true_eq] at hd3
  simp (disch := first | omega | assumption | (simp only [size_alloc, size_put] <;> omega) | (simp only [RK, Nat.reduceAdd] <;> omega) | fail) only [R1, R, Nat.reduceBEq, Nat.reduceAdd]
  refine AWP_upS (fun k t H' => k ≤ sh.length ∧ ∃ st u, t 7 = .int .i64 k ∧ t 6 = .int .i64 (st.at_ : Nat) ∧ t 5 = u ∧ Kp HA H' ∧ Own sv HA.size H' u st.out ∧ rdRun 1000000 T.lb (sh.take k) ⟨0, [[]]⟩ = some st ∧ st.at_ ≤ k ∧ st.at_ ≤ st.out.length ∧ 1 ≤ st.out.length ∧ st.out.length ≤ k + 1 ∧ st.out.length ≤ en.length ∧ ∀ s ∈ st.out, s.length < st.out.length)
    sh.length ⟨Nat.zero_le _, ⟨0, [[]]⟩, _, rfl, rfl, rfl, Kp.refl.alloc, .one1 (Nat.le_refl _), rfl, Nat.le_refl _, Nat.zero_le _, Nat.le_refl _, Nat.le_refl _, by simp only [List.length_cons, List.length_nil]; omega, by simp⟩ ?_
  rintro k t H3 _ hT' ⟨hkl, st, u, h7, h6, h5, hK, hO, hrd, hat, hat2, hpos, hol, hoe, hdep⟩
  have h1 : t 1 = .pointer (some ⟨H.size, 0, none⟩) := hT' 1 rfl
  have h4 : t 4 = .int .i64 en.length := hT' 4 rfl
  have hld3 := trie_ld (hK.get hg)
  have hKH3 := hKA.trans hK
  simp (disch := first | omega | assumption | (simp only [size_alloc, size_put] <;> omega) | (simp only [RK, Nat.reduceAdd] <;> omega) | fail) only [R1, R, Nat.reduceBEq, Nat.reduceAdd, L_s_trPaths_0, h7, h1, hld3, hnn]
  refine ACond_split (fun hk => ?_) (fun hk => ?_)
  · simp only [decide_eq_true_eq, Int.ofNat_lt] at hk
    have hnext := rd_next hk hrd
    have hbit : sh.getD k false = bitAt w k := (hbw.2.2 k).symm
    have hE : Nats H3 v1 w := ints_nats.mp (hw ▸ (hT.kp hKH3).ws)
    simp (disch := first | omega | assumption | (simp only [size_alloc, size_put] <;> omega) | (simp only [RK, Nat.reduceAdd] <;> omega) | fail) only [R1, R, Nat.reduceBEq, Nat.reduceAdd, h6, h5, hO.1.r]
    refine ACond_split (fun hc => ?_) (fun hc => ?_)
    · simp only [decide_eq_true_eq] at hc
      have hnone : trieV T = none := hB.none_of (cap := 1000000) (by omega) (rd_pre (k := k + 1) (by rw [hnext, rdStep, if_pos (by omega)]))
      simp (disch := first | omega | assumption | (simp only [size_alloc, size_put] <;> omega) | (simp only [RK, Nat.reduceAdd] <;> omega) | fail) only [R1, R, Nat.reduceBEq, Nat.reduceAdd]
      exact .no hKH3 hnone
    · simp only [decide_eq_false_iff_not] at hc
      have hc' : ¬ st.out.length ≤ st.at_ := by omega
      simp (disch := first | omega | assumption | (simp only [size_alloc, size_put] <;> omega) | (simp only [RK, Nat.reduceAdd] <;> omega) | fail) only [R1, R, Nat.reduceBEq, Nat.reduceAdd, h1, h7, hld3]
      refine (biAt_ok hE hbw.2.1 (show k / 16 < w.length by rw [hbw.1]; omega) (by omega)).ret fun H4 hK4 => ?_
      have hld4 := trie_ld ((hK.trans hK4).get hg)
      have hO4 := hO.kp hK4
      cases hbk : bitAt w k with
      | false =>
        simp (disch := first | omega | assumption | (simp only [size_alloc, size_put] <;> omega) | (simp only [RK, Nat.reduceAdd] <;> omega) | fail) only [R1, R, Nat.reduceBEq, Nat.reduceAdd, h6, h7, h5]
        refine ⟨hk, hk, ⟨st.at_ + 1, st.out⟩, u, rfl, rfl, rfl, hK.trans hK4, hO4, ?_, by simp only; omega, by simp only; omega, hpos, by simp only; omega, hoe, hdep⟩
        rw [hnext, hbit, hbk, rdStep, if_neg hc', if_pos rfl]
      | true =>
        have hatl : st.at_ < st.out.length := by omega
        have hdl : (st.out.getD st.at_ default).length < st.out.length := by rw [getD_eq hatl]; exact hdep _ (List.getElem_mem hatl)
        have hstep : rdStep 1000000 T.lb st true = if T.lb.length < st.out.length ∨ (st.out.getD st.at_ default).length = 1000000 then none else some ⟨st.at_, st.out ++ [st.out.getD st.at_ default ++ [T.lb.getD (st.out.length - 1) default]]⟩ := by
          rw [rdStep, if_neg hc', if_neg (by simp)]
        simp (disch := first | omega | assumption | (simp only [size_alloc, size_put] <;> omega) | (simp only [RK, Nat.reduceAdd] <;> omega) | fail) only [R1, R, Nat.reduceBEq, Nat.reduceAdd, h5, h4, hO4.1.r]
        refine ACond_split (fun hd => ?_) (fun hd => ?_)
        · simp only [decide_eq_true_eq] at hd
          simp (disch := first | omega | assumption | (simp only [size_alloc, size_put] <;> omega) | (simp only [RK, Nat.reduceAdd] <;> omega) | fail) only [R1, R, Nat.reduceBEq, Nat.reduceAdd]
          refine .no (hKH3.trans hK4) (hB.none_of (cap := 1000000) (by omega) (rd_pre (k := k + 1) ?_))
          rw [hnext, hbit, hbk, hstep, if_pos (.inl (by omega))]
        · simp only [decide_eq_false_iff_not] at hd
          have hsl : (T.lb.take st.out.length).drop (st.out.length - 1) = [T.lb.getD (st.out.length - 1) default] := by
            have h1 : st.out.length - 1 < T.lb.length := by omega
            have e : T.lb.take st.out.length = T.lb.take (st.out.length - 1) ++ [T.lb.getD (st.out.length - 1) default] := by
              rw [← take_succ_getD h1]; congr 1; omega
            rw [e, List.drop_append_of_le_length (by rw [List.length_take]; omega), List.drop_of_length_le (by rw [List.length_take]; omega), List.nil_append]
          have ed : ((st.out.length : Int) - 1).toNat = st.out.length - 1 := by omega
          obtain ⟨u', H5, e5, hO5, hX, _⟩ := append_1 (bytes := 16) (a := st.out.getD st.at_ default ++ [T.lb.getD (st.out.length - 1) default]) hO4 (by rw [(hK.trans hK4).lo]; omega) (fun _ => sv_one) (by omega) (hK.trans hK4).size
          simp (disch := first | omega | assumption | (simp only [size_alloc, size_put] <;> omega) | (simp only [RK, Nat.reduceAdd, List.length_singleton] <;> omega) | fail) only [R1, R, Nat.reduceBEq, Nat.reduceAdd, h1, h5, h6, h7, hld4, hO4.1.r, ed, hsl, e5, List.length_singleton]
          refine ⟨hk, hk, ⟨st.at_, st.out ++ [st.out.getD st.at_ default ++ [T.lb.getD (st.out.length - 1) default]]⟩, _, rfl, rfl, rfl, (hK.trans hK4).app hX hO.2, hO5, ?_, by simp only; omega, by simp; omega, by simp, by simp; omega, by simp; omega, ?_⟩
          · rw [hnext, hbit, hbk, hstep, if_neg (by rintro (h | h) <;> omega)]
          · intro s hs
            rw [List.length_append, List.length_singleton]
            rcases List.mem_append.mp hs with hs | hs
            · have := hdep s hs; omega
            · rw [List.mem_singleton] at hs; rw [hs, List.length_append, List.length_singleton]; omega
  · simp only [decide_eq_false_iff_not, Int.ofNat_lt] at hk
    have hke : k = sh.length := by omega
    subst hke
    rw [List.take_length] at hrd
    simp (disch := first | omega | assumption | (simp only [size_alloc, size_put] <;> omega) | (simp only [RK, Nat.reduceAdd] <;> omega) | fail) only [R1, R, Nat.reduceBEq, Nat.reduceAdd, h5, h4, hO.1.r]
    cases hd : decide ((st.out.length : Int) = en.length) with
    | true =>
      simp only [decide_eq_true_eq] at hd
      exact ⟨hKH3, u, .inl ⟨rfl, st, hrd, by omega, hO.1, fun s hs => by have := hdep s hs; omega⟩⟩
    | false =>
      simp only [decide_eq_false_iff_not] at hd
      refine .no hKH3 (trieV_none.mpr fun keys hk => hd ?_)
      obtain ⟨h1, _, h3⟩ := hB.at_of (by omega) hrd hk
      rw [h3, h1]
end Go.AE
set_option linter.unusedVariables false
set_option linter.unusedSimpArgs false
namespace Go.AE
variable {H : AH}

def KeysP (H : AH) (T : TrieT) : CPost := fun v' H' => Kp H H' ∧ match trieV T with
  | some keys => ∃ w, v' = .tuple #[w, .bool true] ∧ Strs H' w keys
  | none => ∃ w, v' = .tuple #[w, .bool false]
theorem KeysP.no {H H' : AH} {T : TrieT} {w : Value} (hK : Kp H H') (h : trieV T = none) : KeysP H T (.tuple #[w, .bool false]) H' := by
  refine ⟨hK, ?_⟩; rw [h]; exact ⟨_, rfl⟩

theorem trKeys_ok {T : TrieT} {v1 v2 : Value} (hL : Wf H) (hT : TrieAt H T v1 v2) :
    ACalls Ez n_s_trKeys [.agg #[.int .i64 T.n, v1, .int .i64 T.m, v2, sv T.lb]] H (KeysP H T) := by
  refine k_s_trKeys rfl ?_
  have hwf : H.lo ≤ H.size := hL
  have hll := hT.ll
  generalize hHA : H.alloc ⟨[.int .i64 T.n, v1, .int .i64 T.m, v2, sv T.lb], 0⟩ = HA
  have hKA : Kp H HA := by rw [← hHA]; exact Kp.refl.alloc
  have hg : HA.get H.size = some ⟨trieC T v1 v2, 0⟩ := by rw [← hHA]; exact get_alloc_self rfl
  have hld := trie_ld hg
  have hTA := hT.kp hKA
  simp (disch := first | omega | assumption | (simp only [size_alloc, size_put] <;> omega) | (simp only [RK, Nat.reduceAdd] <;> omega) | fail) only [R1, R, Nat.reduceBEq, Nat.reduceAdd, b_s_trKeys, hHA, hld]
  refine biGood_ret hTA.ws hTA.wl fun H1 hK1 => ?_
  have hK01 := hKA.trans hK1
  cases hb1 : isBits T.n T.ws with
  | false =>
    simp (disch := first | omega | assumption | (simp only [size_alloc, size_put] <;> omega) | (simp only [RK, Nat.reduceAdd] <;> omega) | fail) only [R1, R, Nat.reduceBEq, Nat.reduceAdd]
    exact .no hK01 (head_none (by simp [trieHead, hb1]))
  | true =>
  have hld1 := trie_ld (hK1.get hg)
  have hT1 := hT.kp hK01
  simp (disch := first | omega | assumption | (simp only [size_alloc, size_put] <;> omega) | (simp only [RK, Nat.reduceAdd] <;> omega) | fail) only [R1, R, Nat.reduceBEq, Nat.reduceAdd, hld1]
  refine biGood_ret hT1.es hT1.el fun H2 hK2 => ?_
  have hK02 := hK01.trans hK2
  cases hb2 : isBits T.m T.es with
  | false =>
    simp (disch := first | omega | assumption | (simp only [size_alloc, size_put] <;> omega) | (simp only [RK, Nat.reduceAdd] <;> omega) | fail) only [R1, R, Nat.reduceBEq, Nat.reduceAdd]
    exact .no hK02 (head_none (by simp [trieHead, hb1, hb2]))
  | true =>
  obtain ⟨sh, w, n1, l1, e1, b1⟩ := isBits_bits hb1
  obtain ⟨en, e, n2, l2, e2, b2⟩ := isBits_bits hb2
  have hB : TrieB T sh en := ⟨n1, n2, ⟨w, e1, b1⟩, ⟨e, e2, b2⟩⟩
  have hld2 := trie_ld ((hK1.trans hK2).get hg)
  have hT2 := hT.kp hK02
  simp (disch := first | omega | assumption | (simp only [size_alloc, size_put] <;> omega) | (simp only [RK, Nat.reduceAdd] <;> omega) | fail) only [R1, R, Nat.reduceBEq, Nat.reduceAdd, hld2]
  refine (trPaths_ok (hK02.wf hL) hT2 hB l1 l2).imp ?_
  rintro v3 H3 ⟨hK3, u, ⟨rfl, st, hrd, hlen, hS, hdep⟩ | ⟨rfl, hno⟩⟩
  rotate_left
  · simp (disch := first | omega | assumption | (simp only [size_alloc, size_put] <;> omega) | (simp only [RK, Nat.reduceAdd] <;> omega) | fail) only [R1, R, Nat.reduceBEq, Nat.reduceAdd]
    exact .no (hK02.trans hK3) hno
  have hK03 := hK02.trans hK3
  simp (disch := first | omega | assumption | (simp only [size_alloc, size_put] <;> omega) | (simp only [RK, Nat.reduceAdd] <;> omega) | fail) only [R1, R, Nat.reduceBEq, Nat.reduceAdd, hS.len]
  refine AWP_for st.out.length (fun k t H' => ∃ x, t 6 = x ∧ Kp H3 H' ∧ Strs H' x ((pick en (st.out.take k)).foldl putS [])) rfl rfl (by omega) ⟨_, rfl, .refl, .nil⟩ rfl ?_ ?_
  · rintro k t H4 hk hi hn' hT' ⟨x, h6, hK, hSx⟩
    have h27 : t 27 = u := hT' 27 rfl
    have h1 : t 1 = .pointer (some ⟨H.size, 0, none⟩) := hT' 1 rfl
    have hKA4 : Kp HA H4 := hK1.trans (hK2.trans (hK3.trans hK))
    have hld4 := trie_ld (hKA4.get hg)
    have hE : Nats H4 v2 e := ints_nats.mp (e2 ▸ (hT.kp (hK03.trans hK)).es)
    have hbit : en.getD k false = bitAt e k := (b2.2.2 k).symm
    have hpl : (pick en (st.out.take k)).length ≤ k := by
      unfold pick
      rw [List.length_map]
      refine Nat.le_trans (List.length_filter_le _ _) ?_
      rw [List.length_zip, List.length_take]; omega
    have hfl : ((pick en (st.out.take k)).foldl putS []).length ≤ k := by
      refine Nat.le_trans (puts_len _ []) ?_
      simpa using hpl
    simp (disch := first | omega | assumption | (simp only [size_alloc, size_put] <;> omega) | (simp only [RK, Nat.reduceAdd] <;> omega) | fail) only [R1, R, Nat.reduceBEq, Nat.reduceAdd, L_s_trKeys_0, hi, h27, h1, (hS.kp hK).r, hld4]
    refine (biAt_ok hE b2.2.1 (show k / 16 < e.length by rw [b2.1]; omega) (by omega)).ret fun H5 hK5 => ?_
    cases hbk : bitAt e k with
    | false =>
      simp (disch := first | omega | assumption | (simp only [size_alloc, size_put] <;> omega) | (simp only [RK, Nat.reduceAdd] <;> omega) | fail) only [R1, R, Nat.reduceBEq, Nat.reduceAdd]
      refine ⟨_, h6, hK.trans hK5, ?_⟩
      rw [pick_take hk, hbit, hbk]
      simpa using hSx.kp hK5
    | true =>
      simp (disch := first | omega | assumption | (simp only [size_alloc, size_put] <;> omega) | (simp only [RK, Nat.reduceAdd] <;> omega) | fail) only [R1, R, Nat.reduceBEq, Nat.reduceAdd, h6]
      refine (l1PutS_ok ((hK03.trans (hK.trans hK5)).wf hL) (hSx.kp hK5) (by omega)).imp ?_
      rintro x' H6 ⟨hSx', hK6⟩
      simp (disch := first | omega | assumption | (simp only [size_alloc, size_put] <;> omega) | (simp only [RK, Nat.reduceAdd] <;> omega) | fail) only [R1, R, Nat.reduceBEq, Nat.reduceAdd]
      refine ⟨_, rfl, hK.trans (hK5.trans hK6), ?_⟩
      rw [pick_take hk, hbit, hbk, if_pos rfl, List.foldl_append]
      exact hSx'
  · rintro t H4 hi hn' hT' ⟨x, h6, hK, hSx⟩
    rw [List.take_length] at hSx
    have h1 : t 1 = .pointer (some ⟨H.size, 0, none⟩) := hT' 1 rfl
    have hK04 := hK03.trans hK
    have hKA4 : Kp HA H4 := hK1.trans (hK2.trans (hK3.trans hK))
    have hof : ∀ keys, TrieIs T keys → (pick en st.out).foldl putS [] = keys := by
      intro keys hk
      obtain ⟨_, h2, _⟩ := hB.at_of (by omega) hrd hk
      rw [h2, puts_ends hk.1]
    have hfl : ((pick en st.out).foldl putS []).length ≤ 8192 := by
      refine Nat.le_trans (puts_len _ []) ?_
      unfold pick
      rw [List.length_map, List.length_nil]
      have := List.length_filter_le Prod.snd (st.out.zip en)
      rw [List.length_zip] at this; omega
    have hall : AllS ((pick en st.out).foldl putS []) := by
      refine ⟨by omega, fun s hs => ?_⟩
      rcases puts_mem.mp hs with h | h
      · cases h
      · unfold pick at h
        obtain ⟨p, hp, rfl⟩ := List.mem_map.mp h
        have := hdep p.1 (List.of_mem_zip (List.mem_filter.mp hp).1).1
        omega
    generalize (pick en st.out).foldl putS [] = K at *
    simp (disch := first | omega | assumption | (simp only [size_alloc, size_put] <;> omega) | (simp only [RK, Nat.reduceAdd] <;> omega) | fail) only [R1, R, Nat.reduceBEq, Nat.reduceAdd, h6, biKeys_eq hSx hall]
    cases hk : areKeys K with
    | false =>
      simp (disch := first | omega | assumption | (simp only [size_alloc, size_put] <;> omega) | (simp only [RK, Nat.reduceAdd] <;> omega) | fail) only [R1, R, Nat.reduceBEq, Nat.reduceAdd]
      refine .no hK04 (trieV_none.mpr fun keys hk' => ?_)
      rw [hof keys hk', hk'.1] at hk
      cases hk
    | true =>
    simp (disch := first | omega | assumption | (simp only [size_alloc, size_put] <;> omega) | (simp only [RK, Nat.reduceAdd] <;> omega) | fail) only [R1, R, Nat.reduceBEq, Nat.reduceAdd, h6]
    refine (trOf_ok (hK04.wf hL) hSx hk).imp ?_
    rintro v5 H5 ⟨x1, w1, x2, w2, rfl, hsp5, hb5, hc5, hK5⟩
    have hx1 : Nats H5 x1 w1 := hsp5.get 0 rfl
    have hx2 : Nats H5 x2 w2 := hsp5.get 1 rfl
    have ho1 := hx1.one
    have ho2 := hx2.one
    have hK05 := hK04.trans hK5
    have hL5 : Wf H5 := hK05.wf hL
    have hg5 := (hKA4.trans hK5).get hg
    have hbs5 := get_lt hg5
    have hK6 : Kp H5 (H5.alloc ⟨[.int .i64 (shapeOf (children (nodesOf K)) (nodesOf K)).length, x1, .int .i64 (endsOf K (nodesOf K)).length, x2, sv (labelsOf (nodesOf K))], 0⟩) := Kp.refl.alloc
    have hT6 := hT.kp (hK05.trans hK6)
    have hI1 := ints_nats.mpr (hx1.kp hK6)
    have hI2 := ints_nats.mpr (hx2.kp hK6)
    have hsame := same_is (T := T) hk hb5 hc5
    have hno : ∀ {H6} {y : Value}, Kp H H6 → ¬ TrieIs T K → KeysP H T (.tuple #[y, .bool false]) H6 := by
      intro H6 y hk6 h
      refine .no hk6 (trieV_none.mpr fun keys hk' => h ?_)
      rw [hof keys hk']; exact hk'
    generalize hH6 : H5.alloc ⟨[.int .i64 (shapeOf (children (nodesOf K)) (nodesOf K)).length, x1, .int .i64 (endsOf K (nodesOf K)).length, x2, sv (labelsOf (nodesOf K))], 0⟩ = H6 at *
    have hg6 : H6.get H5.size = some ⟨trieC ⟨(shapeOf (children (nodesOf K)) (nodesOf K)).length, w1.map Int.ofNat, (endsOf K (nodesOf K)).length, w2.map Int.ofNat, labelsOf (nodesOf K)⟩ x1 x2, 0⟩ := by rw [← hH6]; exact get_alloc_self rfl
    have hg6' := hK6.get hg5
    have hld6 := trie_ld hg6
    have hld6' := trie_ld hg6'
    simp (disch := first | omega | assumption | (simp only [size_alloc, size_put] <;> omega) | (simp only [RK, Nat.reduceAdd, ho1.1, ho1.2, ho2.1, ho2.2] <;> omega) | fail) only [R1, R, Nat.reduceBEq, Nat.reduceAdd, h1, h6, store_all, hH6, hld6, hld6', ho1.1, ho1.2, ho2.1, ho2.2]
    refine (biSame_ok hT6.ws hI1 hT.wl).ret fun H7 hK7 => ?_
    cases hs1 : (decide (T.n = ((shapeOf (children (nodesOf K)) (nodesOf K)).length : Int)) && (T.ws == w1.map Int.ofNat)) with
    | false =>
      simp (disch := first | omega | assumption | (simp only [size_alloc, size_put] <;> omega) | (simp only [RK, Nat.reduceAdd] <;> omega) | fail) only [R1, R, Nat.reduceBEq, Nat.reduceAdd]
      refine hno (hK05.trans (hK6.trans hK7)) fun h => ?_
      have := (hsame.mp h).1
      rw [decide_eq_true this.1.symm, beq_iff_eq.mpr this.2.symm] at hs1
      cases hs1
    | true =>
    have hld7 := trie_ld (hK7.get hg6)
    have hld7' := trie_ld (hK7.get hg6')
    simp (disch := first | omega | assumption | (simp only [size_alloc, size_put] <;> omega) | (simp only [RK, Nat.reduceAdd] <;> omega) | fail) only [R1, R, Nat.reduceBEq, Nat.reduceAdd, h1, hld7, hld7']
    refine (biSame_ok (hT6.kp hK7).es (hI2.kp hK7) hT.el).ret fun H8 hK8 => ?_
    have hK08 := hK05.trans (hK6.trans (hK7.trans hK8))
    cases hs2 : (decide (T.m = ((endsOf K (nodesOf K)).length : Int)) && (T.es == w2.map Int.ofNat)) with
    | false =>
      simp (disch := first | omega | assumption | (simp only [size_alloc, size_put] <;> omega) | (simp only [RK, Nat.reduceAdd] <;> omega) | fail) only [R1, R, Nat.reduceBEq, Nat.reduceAdd]
      refine hno hK08 fun h => ?_
      have := (hsame.mp h).2.1
      rw [decide_eq_true this.1.symm, beq_iff_eq.mpr this.2.symm] at hs2
      cases hs2
    | true =>
    have hld8 := trie_ld (hK8.get (hK7.get hg6))
    have hld8' := trie_ld (hK8.get (hK7.get hg6'))
    simp (disch := first | omega | assumption | (simp only [size_alloc, size_put] <;> omega) | (simp only [RK, Nat.reduceAdd] <;> omega) | fail) only [R1, R, Nat.reduceBEq, Nat.reduceAdd, h1, hld8, hld8']
    cases hs3 : decide (T.lb = labelsOf (nodesOf K)) with
    | false =>
      simp only [decide_eq_false_iff_not] at hs3
      exact hno hK08 fun h => hs3 (hsame.mp h).2.2.symm
    | true =>
      simp only [decide_eq_true_eq] at hs3
      simp only [Bool.and_eq_true, decide_eq_true_eq, beq_iff_eq] at hs1 hs2
      have his := hsame.mpr ⟨⟨hs1.1.symm, hs1.2.symm⟩, ⟨hs2.1.symm, hs2.2.symm⟩, hs3.symm⟩
      refine ⟨hK08, ?_⟩
      rw [trieV_some.mpr his]
      exact ⟨_, rfl, hSx.kp (hK5.trans (hK6.trans (hK7.trans hK8)))⟩
end Go.AE
set_option linter.unusedVariables false
set_option linter.unusedSimpArgs false
namespace Go.AE
variable {H : AH}

theorem dneg1 : decide ((-1 : Int) < 0) = true := rfl
theorem szIntS_ok {v : Value} {l : List Int} {n : Int} (hS : Ints H v l) (hl : l.length ≤ 9223372036854775807) (hn : -1 ≤ n ∧ n ≤ 4294967296) :
    ACalls Ez n_l_szIntS [v, .int .i64 n] H (Is (.int .i64 (if n - l.length < 0 then -1 else n - l.length)) H) := by
  refine k_l_szIntS rfl ?_
  simp (disch := first | omega | assumption | (simp only [size_alloc, size_put] <;> omega) | (simp only [RK, Nat.reduceAdd] <;> omega) | fail) only [R1, R, Nat.reduceBEq, Nat.reduceAdd, b_l_szIntS, hS.r]
  by_cases h : n - (l.length : Int) < 0
  · simp (disch := first | omega | assumption | (simp only [size_alloc, size_put] <;> omega) | (simp only [RK, Nat.reduceAdd] <;> omega) | fail) only [R1, R, Nat.reduceBEq, Nat.reduceAdd, decide_eq_true h]
    exact .mk (by rw [if_pos h])
  · simp (disch := first | omega | assumption | (simp only [size_alloc, size_put] <;> omega) | (simp only [RK, Nat.reduceAdd] <;> omega) | fail) only [R1, R, Nat.reduceBEq, Nat.reduceAdd, decide_eq_false h]
    exact .mk (by rw [if_neg h])
theorem szBits_ok {m : Int} {v : Value} {l : List Int} {n : Int} (hS : Ints H v l) (hl : l.length ≤ 9223372036854775807) (hn : -1 ≤ n ∧ n ≤ 4294967296) :
    ACalls Ez n_l_szBits [.agg #[.int .i64 m, v], .int .i64 n] H (Ret (.int .i64 (if n - l.length < 0 then -1 else n - l.length)) H) := by
  refine k_l_szBits rfl ?_
  have hA : Kp H (H.alloc ⟨[.int .i64 m, v], 0⟩) := Kp.refl.alloc
  simp (disch := first | omega | assumption | (simp only [size_alloc, size_put] <;> omega) | (simp only [RK, Nat.reduceAdd] <;> omega) | fail) only [R1, R, Nat.reduceBEq, Nat.reduceAdd, b_l_szBits]
  refine (szIntS_ok (hS.kp hA) hl hn).is ?_
  by_cases h : n - (l.length : Int) < 0
  · rw [if_pos h]
    simp (disch := first | omega | assumption | (simp only [size_alloc, size_put] <;> omega) | (simp only [RK, Nat.reduceAdd] <;> omega) | fail) only [R1, R, Nat.reduceBEq, Nat.reduceAdd, dneg1]
    exact ⟨rfl, hA⟩
  · rw [if_neg h]
    simp (disch := first | omega | assumption | (simp only [size_alloc, size_put] <;> omega) | (simp only [RK, Nat.reduceAdd] <;> omega) | fail) only [R1, R, Nat.reduceBEq, Nat.reduceAdd, decide_eq_false h]
    exact ⟨rfl, hA⟩

/-- How much of a bound a trie leaves. -/
def szT (T : TrieT) (n : Int) : Int := if n - T.ws.length - T.es.length - T.lb.length < 0 ∨ n - T.ws.length - T.es.length < 0 ∨ n - T.ws.length < 0 then -1 else n - T.ws.length - T.es.length - T.lb.length
theorem szTrie_ok {T : TrieT} {v1 v2 : Value} (h1 : Ints H v1 T.ws) (h2 : Ints H v2 T.es) (l1 : T.ws.length ≤ 9223372036854775807) (l2 : T.es.length ≤ 9223372036854775807) (l3 : T.lb.length ≤ 9223372036854775807) :
    ACalls Ez n_l_szTrie [.agg #[.int .i64 T.n, v1, .int .i64 T.m, v2, sv T.lb], .int .i64 1048576] H (Ret (.int .i64 (szT T 1048576)) H) := by
  refine k_l_szTrie rfl ?_
  generalize hHA : H.alloc ⟨[.int .i64 T.n, v1, .int .i64 T.m, v2, sv T.lb], 0⟩ = HA
  have hKA : Kp H HA := by rw [← hHA]; exact Kp.refl.alloc
  have hg : HA.get H.size = some ⟨trieC T v1 v2, 0⟩ := by rw [← hHA]; exact get_alloc_self rfl
  have hld := trie_ld hg
  simp (disch := first | omega | assumption | (simp only [size_alloc, size_put] <;> omega) | (simp only [RK, Nat.reduceAdd] <;> omega) | fail) only [R1, R, Nat.reduceBEq, Nat.reduceAdd, b_l_szTrie, hHA, hld]
  refine (szBits_ok (h1.kp hKA) (by omega) (by omega)).ret fun H1 hK1 => ?_
  by_cases c1 : (1048576 : Int) - T.ws.length < 0
  · rw [if_pos c1]
    simp (disch := first | omega | assumption | (simp only [size_alloc, size_put] <;> omega) | (simp only [RK, Nat.reduceAdd] <;> omega) | fail) only [R1, R, Nat.reduceBEq, Nat.reduceAdd, dneg1]
    exact ⟨by rw [szT, if_pos (.inr (.inr c1))], hKA.trans hK1⟩
  · rw [if_neg c1]
    have hld1 := trie_ld (hK1.get hg)
    simp (disch := first | omega | assumption | (simp only [size_alloc, size_put] <;> omega) | (simp only [RK, Nat.reduceAdd] <;> omega) | fail) only [R1, R, Nat.reduceBEq, Nat.reduceAdd, decide_eq_false c1, hld1]
    refine (szBits_ok (h2.kp (hKA.trans hK1)) (by omega) (by omega)).ret fun H2 hK2 => ?_
    by_cases c2 : (1048576 : Int) - T.ws.length - T.es.length < 0
    · rw [if_pos c2]
      simp (disch := first | omega | assumption | (simp only [size_alloc, size_put] <;> omega) | (simp only [RK, Nat.reduceAdd] <;> omega) | fail) only [R1, R, Nat.reduceBEq, Nat.reduceAdd, dneg1]
      exact ⟨by rw [szT, if_pos (.inr (.inl c2))], hKA.trans (hK1.trans hK2)⟩
    · rw [if_neg c2]
      have hld2 := trie_ld ((hK1.trans hK2).get hg)
      simp (disch := first | omega | assumption | (simp only [size_alloc, size_put] <;> omega) | (simp only [RK, Nat.reduceAdd] <;> omega) | fail) only [R1, R, Nat.reduceBEq, Nat.reduceAdd, decide_eq_false c2, hld2]
      by_cases c3 : (1048576 : Int) - T.ws.length - T.es.length - T.lb.length < 0
      · simp (disch := first | omega | assumption | (simp only [size_alloc, size_put] <;> omega) | (simp only [RK, Nat.reduceAdd] <;> omega) | fail) only [R1, R, Nat.reduceBEq, Nat.reduceAdd, decide_eq_true c3]
        exact ⟨by rw [szT, if_pos (.inl c3)], hKA.trans (hK1.trans hK2)⟩
      · simp (disch := first | omega | assumption | (simp only [size_alloc, size_put] <;> omega) | (simp only [RK, Nat.reduceAdd] <;> omega) | fail) only [R1, R, Nat.reduceBEq, Nat.reduceAdd, decide_eq_false c3]
        exact ⟨by rw [szT, if_neg (by rintro (h | h | h) <;> omega)], hKA.trans (hK1.trans hK2)⟩

theorem toIntS_ok {v : Value} {l : List Int} (hL : Wf H) (hS : Ints H v l) (hl : l.length ≤ 1099511627776) :
    ACalls Ez n_l_toIntS [v] H (fun v' H' => Own (Value.int .i64) H.size H' v' l ∧ Kp H H') := by
  refine k_l_toIntS rfl ?_
  have hwf : H.lo ≤ H.size := hL
  simp (disch := first | omega | assumption | (simp only [size_alloc, size_put] <;> omega) | (simp only [RK, Nat.reduceAdd] <;> omega) | fail) only [R1, R, Nat.reduceBEq, Nat.reduceAdd, b_l_toIntS, hS.r, mk_slice]
  refine AWP_upS (fun k t H' => k ≤ l.length ∧ t 4 = .int .i64 k ∧ Kp H H' ∧ Own (Value.int .i64) H.size H' (.slice (some ⟨H.size, 0, none⟩) l.length l.length) (l.take k ++ List.replicate (l.length - k) 0)) l.length
    ⟨Nat.zero_le _, rfl, Kp.refl.alloc, ⟨Sl.fresh (get_alloc_self rfl) (by simp) (by simp), fun b hb => by cases hb; exact Nat.le_refl _⟩⟩ ?_
  rintro k t H1 _ hT ⟨hk, h4, hK, hO⟩
  have h0 : t 0 = v := hT 0 rfl
  have h3 : t 3 = .slice (some ⟨H.size, 0, none⟩) l.length l.length := hT 3 rfl
  simp (disch := first | omega | assumption | (simp only [size_alloc, size_put] <;> omega) | (simp only [RK, Nat.reduceAdd] <;> omega) | fail) only [R1, R, Nat.reduceBEq, Nat.reduceAdd, L_l_toIntS_0, h0, h4, (hS.kp hK).r]
  refine ACond_split (fun hc => ?_) (fun hc => ?_)
  · simp only [decide_eq_true_eq, Int.ofNat_lt] at hc
    have hlen : (l.take k ++ List.replicate (l.length - k) (0 : Int)).length = l.length := by simp; omega
    have hidx : opIndexAddr 1 (.slice (some ⟨H.size, 0, none⟩) l.length l.length) (.int .i64 k) = some (elt 1 (.slice (some ⟨H.size, 0, none⟩) l.length l.length) k) := by
      have := hO.1.idx (k := .i64) (i := (k : Int)) (by rw [hlen]; omega)
      rwa [Int.toNat_natCast] at this
    have hst := hO.1.st (i := k) (x := .int .i64 (l.getD k default)) (fun b hb => by cases hb; rw [hK.lo]; exact hwf) (by rw [hlen]; omega) rfl rfl
    have hset := hO.1.set (i := k) (x := l.getD k default) (by rw [hlen]; omega)
    simp (disch := first | omega | assumption | (simp only [size_alloc, size_put] <;> omega) | (simp only [RK, Nat.reduceAdd] <;> omega) | fail) only [R1, R, Nat.reduceBEq, Nat.reduceAdd, h0, h3, h4, (hS.kp hK).r, hidx, hst]
    refine ⟨hc, hc, by congr 1, hK.app stH_kpx hO.2, ?_, hO.2⟩
    have e : (l.take k ++ List.replicate (l.length - k) (0 : Int)).set k (l.getD k default) = l.take (k + 1) ++ List.replicate (l.length - (k + 1)) 0 := by
      rw [List.set_append_right _ _ (by simp; omega), take_succ_getD hc, List.append_assoc]
      congr 1
      rw [show k - (l.take k).length = 0 by simp; omega, show l.length - k = (l.length - (k + 1)) + 1 by omega, List.replicate_succ]
      rfl
    rw [e] at hset
    exact hset
  · simp only [decide_eq_false_iff_not, Int.ofNat_lt] at hc
    have : k = l.length := by omega
    subst this
    simp (disch := first | omega | assumption | (simp only [size_alloc, size_put] <;> omega) | (simp only [RK, Nat.reduceAdd] <;> omega) | fail) only [R1, R, Nat.reduceBEq, Nat.reduceAdd, h3]
    have hO' := hO
    rw [List.take_length, Nat.sub_self, List.replicate_zero, List.append_nil] at hO'
    exact ⟨hO', hK⟩
theorem toBits_ok {m : Int} {v : Value} {l : List Int} (hL : Wf H) (hS : Ints H v l) (hl : l.length ≤ 1099511627776) :
    ACalls Ez n_l_toBits [.agg #[.int .i64 m, v]] H (fun v' H' => ∃ u, v' = .agg #[.int .i64 m, u] ∧ Own (Value.int .i64) H.size H' u l ∧ Kp H H') := by
  refine k_l_toBits rfl ?_
  have hwf : H.lo ≤ H.size := hL
  have hone := hS.one
  generalize hHA : ((H.alloc ⟨[.int .i64 m, v], 0⟩).alloc ⟨[.int .i64 0, .slice none 0 0], 0⟩).alloc ⟨[.int .i64 m, .slice none 0 0], 0⟩ = HA
  have hKA : Kp H HA := by rw [← hHA]; exact Kp.refl.alloc.alloc.alloc
  have hszA : HA.size = H.size + 3 := by rw [← hHA]; simp only [size_alloc]
  have hg1 : HA.get H.size = some ⟨[.int .i64 m, v], 0⟩ := by
    rw [← hHA, get_alloc_lt (by simp only [size_alloc]; omega), get_alloc_lt (by simp only [size_alloc]; omega)]; exact get_alloc_self rfl
  have hg2 : HA.get (H.size + 1) = some ⟨[.int .i64 0, .slice none 0 0], 0⟩ := by
    rw [← hHA, get_alloc_lt (by simp only [size_alloc]; omega)]; exact get_alloc_self (by simp only [size_alloc])
  have hg3 : HA.get (H.size + 1 + 1) = some ⟨[.int .i64 m, .slice none 0 0], 0⟩ := by rw [← hHA]; exact get_alloc_self (by simp only [size_alloc])
  have hLA := hKA.wf hL
  have hLx : Wf ((H.alloc ⟨[.int .i64 m, v], 0⟩).alloc ⟨[.int .i64 0, .slice none 0 0], 0⟩) := hL.alloc.alloc
  have hloA : HA.lo ≤ H.size := by rw [hKA.lo]; exact hwf
  simp (disch := first | omega | assumption | (simp only [size_alloc, size_put] <;> omega) | (simp only [RK, Nat.reduceAdd] <;> omega) | fail) only [R1, R, Nat.reduceBEq, Nat.reduceAdd, b_l_toBits, hHA, (load_at hg1).1]
  refine (toIntS_ok hLA (hS.kp hKA) hl).imp ?_
  rintro u H1 ⟨hO, hK1⟩
  have hou := hO.1.one
  have hg3' := hK1.get hg3
  have hg2' := hK1.get hg2
  have hlo1 : H1.lo ≤ H.size := by rw [hK1.lo]; exact hloA
  have hs1 := hK1.size
  have hst1 := boxF_store (o := 1) (x := u) hg3' (by omega) (by simp) hou.1 hou.2
  have hgB : (putB H1 (H.size + 1 + 1) ⟨[.int .i64 m, u], 0⟩).get (H.size + 1 + 1) = some ⟨[.int .i64 m, u], 0⟩ := box_get hg3'
  have hgB2 : (putB H1 (H.size + 1 + 1) ⟨[.int .i64 m, u], 0⟩).get (H.size + 1) = some ⟨[.int .i64 0, .slice none 0 0], 0⟩ := by
    rw [show (putB H1 (H.size + 1 + 1) ⟨[.int .i64 m, u], 0⟩).get (H.size + 1) = H1.get (H.size + 1) from get_put_ne (by omega)]; exact hg2'
  have hst2 := boxN_store (n := 2) (ns := [.int .i64 m, u]) hgB2 (by show H1.lo ≤ _; omega) rfl rfl (by simp [int_one, hou])
  have hld : opLoad (some 2) (.pointer (some ⟨H.size + 1 + 1, 0, none⟩)) (putB H1 (H.size + 1 + 1) ⟨[.int .i64 m, u], 0⟩) = some (.agg #[.int .i64 m, u]) := by
    rw [(load_at hgB).2]; exact oAgg_all (by simp)
  simp (disch := first | omega | assumption | (simp only [size_alloc, size_put] <;> omega) | (simp only [RK, Nat.reduceAdd] <;> omega) | fail) only [R1, R, Nat.reduceBEq, Nat.reduceAdd, hst1, hld, hst2, (load_at (box_get hgB2)).2, oAgg_all, vset_succ, vset_zero]
  refine ⟨u, rfl, ⟨?_, fun b hb => by have := hO.2 b hb; omega⟩, ?_⟩
  · refine SlC.loc hO.1 fun b hb => ?_
    have := hO.2 b hb
    rw [show (putB (putB H1 (H.size + 1 + 1) ⟨[.int .i64 m, u], 0⟩) (H.size + 1) ⟨[.int .i64 m, u], 0⟩).get b = (putB H1 (H.size + 1 + 1) ⟨[.int .i64 m, u], 0⟩).get b from get_put_ne (by omega)]
    exact get_put_ne (by omega)
  · exact ((hKA.trans hK1).app box_kpx (fun i hi => by cases hi; omega)).app box_kpx (fun i hi => by cases hi; omega)
end Go.AE
set_option linter.unusedVariables false
set_option linter.unusedSimpArgs false
namespace Go.AE
variable {H : AH}

theorem eqIntS_ok {v u : Value} {a b : List Int} (hv : Ints H v a) (hu : Ints H u b) (hl : a.length ≤ 1099511627776) : ACalls Ez n_l_eqIntS [v, u] H (Is (.bool (a == b)) H) := by
  refine k_l_eqIntS rfl ?_
  have hlv := hv.len
  have hlu := hu.len
  simp (disch := first | omega | assumption | (simp only [size_alloc, size_put] <;> omega) | (simp only [RK, Nat.reduceAdd] <;> omega) | fail) only [R1, R, Nat.reduceBEq, Nat.reduceAdd, b_l_eqIntS, hlv, hlu]
  cases hne : decide ((a.length : Int) = b.length) with
  | false =>
    simp only [decide_eq_false_iff_not] at hne
    simp (disch := first | omega | assumption | (simp only [size_alloc, size_put] <;> omega) | (simp only [RK, Nat.reduceAdd] <;> omega) | fail) only [R1, R, Nat.reduceBEq, Nat.reduceAdd]
    refine .mk ?_
    have : ¬ a = b := by rintro rfl; exact hne rfl
    rw [beq_eq_false_iff_ne.mpr this]
  | true =>
  simp only [decide_eq_true_eq] at hne
  have hlen : a.length = b.length := by omega
  simp (disch := first | omega | assumption | (simp only [size_alloc, size_put] <;> omega) | (simp only [RK, Nat.reduceAdd] <;> omega) | fail) only [R1, R, Nat.reduceBEq, Nat.reduceAdd]
  refine AWP_upS (fun k t H' => t 5 = .int .i64 k ∧ k ≤ a.length ∧ H' = H ∧ ∀ j, j < k → a.getD j default = b.getD j default) a.length ⟨rfl, Nat.zero_le _, rfl, by omega⟩ ?_
  rintro k t H' _ hT ⟨h5, hk, rfl, hI⟩
  have h0 : t 0 = v := hT 0 rfl
  have h1 : t 1 = u := hT 1 rfl
  simp (disch := first | omega | assumption | (simp only [size_alloc, size_put] <;> omega) | (simp only [RK, Nat.reduceAdd] <;> omega) | fail) only [R1, R, Nat.reduceBEq, Nat.reduceAdd, L_l_eqIntS_0, h0, h5, hv.r]
  refine ACond_split (fun hc => ?_) (fun hc => ?_)
  · simp only [decide_eq_true_eq, Int.ofNat_lt] at hc
    simp (disch := first | omega | assumption | (simp only [size_alloc, size_put] <;> omega) | (simp only [RK, Nat.reduceAdd] <;> omega) | fail) only [R1, R, Nat.reduceBEq, Nat.reduceAdd, h0, h1, h5, hv.r, hu.r]
    cases hd : decide (a.getD k default = b.getD k default) with
    | false =>
      simp only [decide_eq_false_iff_not] at hd
      simp (disch := first | omega | assumption | (simp only [size_alloc, size_put] <;> omega) | (simp only [RK, Nat.reduceAdd] <;> omega) | fail) only [R1, R, Nat.reduceBEq, Nat.reduceAdd]
      refine .mk ?_
      have : ¬ a = b := by rintro rfl; exact hd rfl
      rw [beq_eq_false_iff_ne.mpr this]
    | true =>
      simp only [decide_eq_true_eq] at hd
      simp (disch := first | omega | assumption | (simp only [size_alloc, size_put] <;> omega) | (simp only [RK, Nat.reduceAdd] <;> omega) | fail) only [R1, R, Nat.reduceBEq, Nat.reduceAdd, h5]
      exact ⟨hc, by congr 1, hc, trivial, lt_succ_all hI hd⟩
  · simp only [decide_eq_false_iff_not, Int.ofNat_lt] at hc
    simp (disch := first | omega | assumption | (simp only [size_alloc, size_put] <;> omega) | (simp only [RK, Nat.reduceAdd] <;> omega) | fail) only [R1, R, Nat.reduceBEq, Nat.reduceAdd]
    refine .mk ?_
    have : a = b := by
      refine List.ext_getElem hlen fun i h1 h2 => ?_
      have := hI i (by omega)
      rwa [getD_eq h1, getD_eq h2] at this
    rw [this]; simp
theorem eqBits_ok {n m : Int} {v u : Value} {a b : List Int} (hv : Ints H v a) (hu : Ints H u b) (hl : a.length ≤ 1099511627776) : ACalls Ez n_l_eqBits [.agg #[.int .i64 n, v], .agg #[.int .i64 m, u]] H (Ret (.bool (decide (n = m) && a == b)) H) := by
  refine k_l_eqBits rfl ?_
  have hA : Kp H ((H.alloc ⟨[.int .i64 n, v], 0⟩).alloc ⟨[.int .i64 m, u], 0⟩) := Kp.refl.alloc.alloc
  simp (disch := first | omega | assumption | (simp only [size_alloc, size_put] <;> omega) | (simp only [RK, Nat.reduceAdd] <;> omega) | fail) only [R1, R, Nat.reduceBEq, Nat.reduceAdd, b_l_eqBits]
  cases h : decide (n = m) with
  | false => simp (disch := first | omega | assumption | (simp only [size_alloc, size_put] <;> omega) | (simp only [RK, Nat.reduceAdd] <;> omega) | fail) only [R1, R, Nat.reduceBEq, Nat.reduceAdd]; exact ⟨rfl, hA⟩
  | true =>
    simp (disch := first | omega | assumption | (simp only [size_alloc, size_put] <;> omega) | (simp only [RK, Nat.reduceAdd] <;> omega) | fail) only [R1, R, Nat.reduceBEq, Nat.reduceAdd]
    refine (eqIntS_ok (hv.kp hA) (hu.kp hA) hl).is ?_
    cases h2 : a == b with
    | true => simp (disch := first | omega | assumption | (simp only [size_alloc, size_put] <;> omega) | (simp only [RK, Nat.reduceAdd] <;> omega) | fail) only [R1, R, Nat.reduceBEq, Nat.reduceAdd]; exact ⟨rfl, hA⟩
    | false => simp (disch := first | omega | assumption | (simp only [size_alloc, size_put] <;> omega) | (simp only [RK, Nat.reduceAdd] <;> omega) | fail) only [R1, R, Nat.reduceBEq, Nat.reduceAdd]; exact ⟨rfl, hA⟩
/-- Whether two structs of tries are one. -/
def sameT (A B : TrieT) : Bool := (decide (A.n = B.n) && A.ws == B.ws) && ((decide (A.m = B.m) && A.es == B.es) && decide (A.lb = B.lb))
theorem sameT_self {A : TrieT} : sameT A A = true := by simp [sameT]
theorem sameT_iff {A B : TrieT} : sameT A B = true ↔ A = B := by
  constructor
  · intro h
    simp only [sameT, Bool.and_eq_true, decide_eq_true_eq, beq_iff_eq] at h
    obtain ⟨⟨h1, h2⟩, ⟨h3, h4⟩, h5⟩ := h
    cases A; cases B; simp only at *; subst h1; subst h2; subst h3; subst h4; subst h5; rfl
  · rintro rfl; exact sameT_self
theorem eqTrie_ok {A B : TrieT} {v1 v2 u1 u2 : Value} (hA : TrieAt H A v1 v2) (hB : TrieAt H B u1 u2) :
    ACalls Ez n_l_eqTrie [.agg #[.int .i64 A.n, v1, .int .i64 A.m, v2, sv A.lb], .agg #[.int .i64 B.n, u1, .int .i64 B.m, u2, sv B.lb]] H (Ret (.bool (sameT A B)) H) := by
  refine k_l_eqTrie rfl ?_
  generalize hHA : (H.alloc ⟨[.int .i64 A.n, v1, .int .i64 A.m, v2, sv A.lb], 0⟩).alloc ⟨[.int .i64 B.n, u1, .int .i64 B.m, u2, sv B.lb], 0⟩ = HA
  have hKA : Kp H HA := by rw [← hHA]; exact Kp.refl.alloc.alloc
  have hg1 : HA.get H.size = some ⟨trieC A v1 v2, 0⟩ := by rw [← hHA, get_alloc_lt (by rw [size_alloc]; omega)]; exact get_alloc_self rfl
  have hg2 : HA.get (H.size + 1) = some ⟨trieC B u1 u2, 0⟩ := by rw [← hHA]; exact get_alloc_self (by rw [size_alloc])
  have l1 := trie_ld hg1
  have l2 := trie_ld hg2
  simp (disch := first | omega | assumption | (simp only [size_alloc, size_put] <;> omega) | (simp only [RK, Nat.reduceAdd] <;> omega) | fail) only [R1, R, Nat.reduceBEq, Nat.reduceAdd, b_l_eqTrie, hHA, l1, l2]
  refine (eqBits_ok (hA.kp hKA).ws (hB.kp hKA).ws hA.wl).ret fun H1 hK1 => ?_
  cases h1 : (decide (A.n = B.n) && A.ws == B.ws) with
  | false => simp (disch := first | omega | assumption | (simp only [size_alloc, size_put] <;> omega) | (simp only [RK, Nat.reduceAdd] <;> omega) | fail) only [R1, R, Nat.reduceBEq, Nat.reduceAdd]; exact ⟨by rw [sameT, h1]; rfl, hKA.trans hK1⟩
  | true =>
  have l1' := trie_ld (hK1.get hg1)
  have l2' := trie_ld (hK1.get hg2)
  simp (disch := first | omega | assumption | (simp only [size_alloc, size_put] <;> omega) | (simp only [RK, Nat.reduceAdd] <;> omega) | fail) only [R1, R, Nat.reduceBEq, Nat.reduceAdd, l1', l2']
  refine (eqBits_ok (hA.kp (hKA.trans hK1)).es (hB.kp (hKA.trans hK1)).es hA.el).ret fun H2 hK2 => ?_
  cases h2 : (decide (A.m = B.m) && A.es == B.es) with
  | false => simp (disch := first | omega | assumption | (simp only [size_alloc, size_put] <;> omega) | (simp only [RK, Nat.reduceAdd] <;> omega) | fail) only [R1, R, Nat.reduceBEq, Nat.reduceAdd]; exact ⟨by rw [sameT, h1, h2]; rfl, hKA.trans (hK1.trans hK2)⟩
  | true =>
  have l1' := trie_ld ((hK1.trans hK2).get hg1)
  have l2' := trie_ld ((hK1.trans hK2).get hg2)
  simp (disch := first | omega | assumption | (simp only [size_alloc, size_put] <;> omega) | (simp only [RK, Nat.reduceAdd] <;> omega) | fail) only [R1, R, Nat.reduceBEq, Nat.reduceAdd, l1', l2']
  cases h3 : decide (A.lb = B.lb) with
  | false => simp (disch := first | omega | assumption | (simp only [size_alloc, size_put] <;> omega) | (simp only [RK, Nat.reduceAdd] <;> omega) | fail) only [R1, R, Nat.reduceBEq, Nat.reduceAdd]; exact ⟨by rw [sameT, h1, h2, h3]; rfl, hKA.trans (hK1.trans hK2)⟩
  | true => simp (disch := first | omega | assumption | (simp only [size_alloc, size_put] <;> omega) | (simp only [RK, Nat.reduceAdd] <;> omega) | fail) only [R1, R, Nat.reduceBEq, Nat.reduceAdd]; exact ⟨by rw [sameT, h1, h2, h3]; rfl, hKA.trans (hK1.trans hK2)⟩

/-- A copy of a trie's struct: its slices are new. -/
def CopyT (H : AH) (T : TrieT) : CPost := fun v' H' => ∃ u1 u2, v' = .agg #[.int .i64 T.n, u1, .int .i64 T.m, u2, sv T.lb] ∧ Sep H.size H' [.own (Value.int .i64) u1 T.ws, .own (Value.int .i64) u2 T.es] ∧ Kp H H'
theorem toTrie_ok {T : TrieT} {v1 v2 : Value} (hL : Wf H) (hT : TrieAt H T v1 v2) :
    ACalls Ez n_l_toTrie [.agg #[.int .i64 T.n, v1, .int .i64 T.m, v2, sv T.lb]] H (CopyT H T) := by
  refine k_l_toTrie rfl ?_
  have hwf : H.lo ≤ H.size := hL
  generalize hHA : ((H.alloc ⟨[.int .i64 T.n, v1, .int .i64 T.m, v2, sv T.lb], 0⟩).alloc ⟨[.int .i64 0, .slice none 0 0, .int .i64 0, .slice none 0 0, sv []], 0⟩).alloc ⟨[.int .i64 0, .slice none 0 0, .int .i64 0, .slice none 0 0, sv []], 0⟩ = HA
  have hKA : Kp H HA := by rw [← hHA]; exact Kp.refl.alloc.alloc.alloc
  have hszA : HA.size = H.size + 3 := by rw [← hHA]; simp only [size_alloc]
  have hg1 : HA.get H.size = some ⟨trieC T v1 v2, 0⟩ := by
    rw [← hHA, get_alloc_lt (by simp only [size_alloc]; omega), get_alloc_lt (by simp only [size_alloc]; omega)]; exact get_alloc_self rfl
  have hg2 : HA.get (H.size + 1) = some ⟨[.int .i64 0, .slice none 0 0, .int .i64 0, .slice none 0 0, sv []], 0⟩ := by
    rw [← hHA, get_alloc_lt (by simp only [size_alloc]; omega)]; exact get_alloc_self (by simp only [size_alloc])
  have hg3 : HA.get (H.size + 1 + 1) = some ⟨[.int .i64 0, .slice none 0 0, .int .i64 0, .slice none 0 0, sv []], 0⟩ := by rw [← hHA]; exact get_alloc_self (by simp only [size_alloc])
  have hLA := hKA.wf hL
  have hloA : HA.lo ≤ H.size := by rw [hKA.lo]; exact hwf
  have l1 := trie_ld hg1
  simp (disch := first | omega | assumption | (simp only [size_alloc, size_put] <;> omega) | (simp only [RK, Nat.reduceAdd] <;> omega) | fail) only [R1, R, Nat.reduceBEq, Nat.reduceAdd, b_l_toTrie, hHA, l1]
  refine (toBits_ok hLA (hT.kp hKA).ws hT.wl).imp ?_
  rintro v3 H1 ⟨u1, rfl, hO1, hK1⟩
  have ho1 := hO1.1.one
  have hs1 := hK1.size
  have hlo1 : H1.lo ≤ H.size := by rw [hK1.lo]; exact hloA
  have hst1 := boxS_store (o := 0) (ns := [.int .i64 T.n, u1]) (hK1.get hg3) (by omega) (by simp) (by simp [int_one, ho1])
  generalize hHB : putB H1 (H.size + 1 + 1) ⟨splice [.int .i64 0, .slice none 0 0, .int .i64 0, .slice none 0 0, sv []] 0 [.int .i64 T.n, u1], 0⟩ = HB at hst1
  have hgB : HB.get (H.size + 1 + 1) = some ⟨[.int .i64 T.n, u1, .int .i64 0, .slice none 0 0, sv []], 0⟩ := by rw [← hHB]; exact box_get (hK1.get hg3)
  have hXB : KpX (some (H.size + 1 + 1)) H1 HB := by rw [← hHB]; exact box_kpx
  have hKB : Kp H HB := (hKA.trans hK1).app hXB (fun i hi => by cases hi; omega)
  have hgB1 : HB.get H.size = some ⟨trieC T v1 v2, 0⟩ := by rw [hXB.2.2 _ (by omega) (by simp; omega)]; exact hK1.get hg1
  have hgB2 : HB.get (H.size + 1) = some ⟨[.int .i64 0, .slice none 0 0, .int .i64 0, .slice none 0 0, sv []], 0⟩ := by rw [hXB.2.2 _ (by omega) (by simp)]; exact hK1.get hg2
  have hsB := hXB.2.1
  have l2 := trie_ld hgB1
  have e2 : [Value.int .i64 T.n, u1].length = 2 := rfl
  rw [e2] at hst1
  simp (disch := first | omega | assumption | (simp only [size_alloc, size_put] <;> omega) | (simp only [RK, Nat.reduceAdd] <;> omega) | fail) only [R1, R, Nat.reduceBEq, Nat.reduceAdd, hst1, l2]
  refine (toBits_ok (hKB.wf hL) (hT.kp hKB).es hT.el).imp ?_
  rintro v4 H2 ⟨u2, rfl, hO2, hK2⟩
  have ho2 := hO2.1.one
  have hs2 := hK2.size
  have hlo2 : H2.lo ≤ H.size := by rw [hK2.lo, hKB.lo]; exact hwf
  have hst2 := boxS_store (o := 2) (ns := [.int .i64 T.m, u2]) (hK2.get hgB) (by omega) (by simp) (by simp [int_one, ho2])
  generalize hHC : putB H2 (H.size + 1 + 1) ⟨splice [.int .i64 T.n, u1, .int .i64 0, .slice none 0 0, sv []] 2 [.int .i64 T.m, u2], 0⟩ = HC at hst2
  have hgC : HC.get (H.size + 1 + 1) = some ⟨[.int .i64 T.n, u1, .int .i64 T.m, u2, sv []], 0⟩ := by rw [← hHC]; exact box_get (hK2.get hgB)
  have hXC : KpX (some (H.size + 1 + 1)) H2 HC := by rw [← hHC]; exact box_kpx
  have hKC : Kp H HC := (hKB.trans hK2).app hXC (fun i hi => by cases hi; omega)
  have hgC1 : HC.get H.size = some ⟨trieC T v1 v2, 0⟩ := by rw [hXC.2.2 _ (by omega) (by simp; omega)]; exact hK2.get hgB1
  have hgC2 : HC.get (H.size + 1) = some ⟨[.int .i64 0, .slice none 0 0, .int .i64 0, .slice none 0 0, sv []], 0⟩ := by rw [hXC.2.2 _ (by omega) (by simp)]; exact hK2.get hgB2
  have hsC := hXC.2.1
  have l3 := trie_ld hgC1
  have e3 : [Value.int .i64 T.m, u2].length = 2 := rfl
  rw [e3] at hst2
  have hloC : HC.lo ≤ H.size := by rw [hKC.lo]; exact hwf
  have hst3 := boxF_store (o := 4) (x := sv T.lb) hgC (by omega) (by simp) rfl rfl
  generalize hHD : putB HC (H.size + 1 + 1) ⟨[.int .i64 T.n, u1, .int .i64 T.m, u2, sv []].set 4 (sv T.lb), 0⟩ = HD at hst3
  have hgD : HD.get (H.size + 1 + 1) = some ⟨trieC T u1 u2, 0⟩ := by rw [← hHD]; exact box_get hgC
  have hXD : KpX (some (H.size + 1 + 1)) HC HD := by rw [← hHD]; exact box_kpx
  have hKD : Kp H HD := hKC.app hXD (fun i hi => by cases hi; omega)
  have hgD2 : HD.get (H.size + 1) = some ⟨[.int .i64 0, .slice none 0 0, .int .i64 0, .slice none 0 0, sv []], 0⟩ := by rw [hXD.2.2 _ (by omega) (by simp)]; exact hgC2
  have l4 := trie_ld hgD
  have hloD : HD.lo ≤ H.size := by rw [hKD.lo]; exact hwf
  have hst4 := boxN_store (n := 5) (ns := [.int .i64 T.n, u1, .int .i64 T.m, u2, sv T.lb]) hgD2 (by omega) rfl rfl (by simp [int_one, sv_one, ho1, ho2])
  simp (disch := first | omega | assumption | (simp only [size_alloc, size_put] <;> omega) | (simp only [RK, Nat.reduceAdd] <;> omega) | fail) only [R1, R, Nat.reduceBEq, Nat.reduceAdd, hst2, l3, hst3, l4, hst4, (load_at (box_get hgD2)).2, oAgg_all]
  have hsD := hXD.2.1
  refine ⟨u1, u2, rfl, ?_, hKD.app box_kpx (fun i hi => by cases hi; omega)⟩
  have hsep : Sep HA.size H2 [.own (Value.int .i64) u1 T.ws, .own (Value.int .i64) u2 T.es] := by
    refine ⟨?_, ?_, ?_⟩
    · intro r hr
      rcases List.mem_cons.mp hr with rfl | hr
      · refine SlC.kp (SlC.loc hO1.1 fun b hb => ?_) hK2
        have := hO1.2 b hb
        exact hXB.2.2 b (SlC.lt hO1.1 hb) (by simp; omega)
      · rw [List.mem_singleton] at hr; subst hr; exact hO2.1
    · intro r hr b hb
      rcases List.mem_cons.mp hr with rfl | hr
      · exact hO1.2 b hb
      · rw [List.mem_singleton] at hr; subst hr; have := hO2.2 b hb; omega
    · refine List.Pairwise.cons (fun s hs b hb hb' => ?_) (List.pairwise_singleton _ _)
      rw [List.mem_singleton] at hs; subst hs
      have h1 := SlC.lt hO1.1 hb
      have h2 := hO2.2 b hb'
      omega
  have hmv : ∀ b, HA.size ≤ b → b < H2.size → (putB HD (H.size + 1) ⟨[.int .i64 T.n, u1, .int .i64 T.m, u2, sv T.lb], 0⟩).get b = H2.get b := by
    intro b h1 h2
    rw [show (putB HD (H.size + 1) ⟨[.int .i64 T.n, u1, .int .i64 T.m, u2, sv T.lb], 0⟩).get b = HD.get b from get_put_ne (by omega), hXD.2.2 b (by omega) (by simp; omega), hXC.2.2 b (by omega) (by simp; omega)]
  exact ⟨fun r hr => r.loc H2 _ (hsep.ok r hr) fun b hb => hmv b (hsep.ge r hr b hb) (r.lt H2 (hsep.ok r hr) b hb), fun r hr b hb => by have := hsep.ge r hr b hb; omega, hsep.dj⟩
end Go.AE
set_option linter.unusedVariables false
set_option linter.unusedSimpArgs false
namespace Go.AE
variable {H : AH}

def OkP (H : AH) (T : TrieT) : CPost := fun v' H' => Kp H H' ∧ match trieV T with
  | some keys => ∃ w, v' = .tuple #[w, .bool true] ∧ Strs H' w (nodesOf keys)
  | none => v' = .tuple #[.slice none 0 0, .bool false]
theorem trOk_ok {T : TrieT} {v1 v2 : Value} (hL : Wf H) (hT : TrieAt H T v1 v2) : ACalls Ez n_s_trOk [.agg #[.int .i64 T.n, v1, .int .i64 T.m, v2, sv T.lb]] H (OkP H T) := by
  refine k_s_trOk rfl ?_
  generalize hHA : H.alloc ⟨[.int .i64 T.n, v1, .int .i64 T.m, v2, sv T.lb], 0⟩ = HA
  have hKA : Kp H HA := by rw [← hHA]; exact Kp.refl.alloc
  have hg : HA.get H.size = some ⟨trieC T v1 v2, 0⟩ := by rw [← hHA]; exact get_alloc_self rfl
  have hld := trie_ld hg
  simp (disch := first | omega | assumption | (simp only [size_alloc, size_put] <;> omega) | (simp only [RK, Nat.reduceAdd] <;> omega) | fail) only [R1, R, Nat.reduceBEq, Nat.reduceAdd, b_s_trOk, hHA, hld]
  refine (trKeys_ok (hKA.wf hL) (hT.kp hKA)).imp ?_
  rintro v' H1 ⟨hK1, hm⟩
  cases hv : trieV T with
  | none =>
    rw [hv] at hm
    obtain ⟨w, rfl⟩ := hm
    simp (disch := first | omega | assumption | (simp only [size_alloc, size_put] <;> omega) | (simp only [RK, Nat.reduceAdd] <;> omega) | fail) only [R1, R, Nat.reduceBEq, Nat.reduceAdd]
    refine ⟨hKA.trans hK1, ?_⟩
    rw [hv]
  | some keys =>
    rw [hv] at hm
    obtain ⟨w, rfl, hS⟩ := hm
    have hk := (trieV_some.mp hv).1
    simp (disch := first | omega | assumption | (simp only [size_alloc, size_put] <;> omega) | (simp only [RK, Nat.reduceAdd] <;> omega) | fail) only [R1, R, Nat.reduceBEq, Nat.reduceAdd]
    refine (trNodes_ok ((hKA.trans hK1).wf hL) hS hk).imp ?_
    rw [nodes_same hk]
    rintro u H2 ⟨hO, hK2⟩
    simp (disch := first | omega | assumption | (simp only [size_alloc, size_put] <;> omega) | (simp only [RK, Nat.reduceAdd] <;> omega) | fail) only [R1, R, Nat.reduceBEq, Nat.reduceAdd]
    refine ⟨hKA.trans (hK1.trans hK2), ?_⟩
    rw [hv]
    exact ⟨u, rfl, hO.1⟩

theorem nodesOf_pos {keys : List Str} : 0 < (nodesOf keys).length := by obtain ⟨r, hr, _⟩ := @nodesOf_head keys; rw [hr]; simp
theorem own_some {α : Type} {f : α → Value} {n0 : Nat} {H : AH} {v : Value} {l : List α} (h : Own f n0 H v l) (hp : 0 < l.length) : ∃ a n c, v = .slice (some a) n c := by
  obtain ⟨⟨_, ⟨_, h0⟩ | ⟨b, o, c, _, h1, _⟩⟩, _⟩ := h
  · omega
  · exact ⟨_, _, _, h1⟩

/-- A node's string, with all nodes. -/
def NodeP (H : AH) (T : TrieT) (i : Int) : CPost := fun v' H' => Kp H H' ∧ match trieV T with
  | some keys => if 0 ≤ i ∧ i ≤ (nodesOf keys).length - 1 then ∃ w, v' = .tuple #[sv ((nodesOf keys).getD i.toNat default), w, .bool true] ∧ Strs H' w (nodesOf keys) else v' = .tuple #[sv [], .slice none 0 0, .bool false]
  | none => v' = .tuple #[sv [], .slice none 0 0, .bool false]
theorem nodeAt_ok {b es : Nat} {T : TrieT} {v1 v2 : Value} {i : Int} (hL : Wf H) (hg : H.get b = some ⟨trieC T v1 v2, es⟩) (hT : TrieAt H T v1 v2) :
    ACalls Ez n_i_Trie_nodeAt [.pointer (some ⟨b, 0, none⟩), .int .i64 i] H (NodeP H T i) := by
  refine k_i_Trie_nodeAt rfl ?_
  simp (disch := first | omega | assumption | (simp only [size_alloc, size_put] <;> omega) | (simp only [RK, Nat.reduceAdd] <;> omega) | fail) only [R1, R, Nat.reduceBEq, Nat.reduceAdd, b_i_Trie_nodeAt]
  refine (nodes_ok hL hg hT).imp ?_
  rintro w H1 ⟨hK1, hm⟩
  cases hv : trieV T with
  | none =>
    rw [hv] at hm
    subst hm
    have hl : opLen false (.slice none 0 0) = some (.int .i64 0) := rfl
    simp (disch := first | omega | assumption | (simp only [size_alloc, size_put] <;> omega) | (simp only [RK, Nat.reduceAdd] <;> omega) | fail) only [R1, R, Nat.reduceBEq, Nat.reduceAdd, hl, in_eq]
    have : (decide (0 ≤ i) && decide (i ≤ 0 - 1)) = false := by
      rw [Bool.and_eq_false_iff, decide_eq_false_iff_not, decide_eq_false_iff_not]; omega
    simp (disch := first | omega | assumption | (simp only [size_alloc, size_put] <;> omega) | (simp only [RK, Nat.reduceAdd] <;> omega) | fail) only [R1, R, Nat.reduceBEq, Nat.reduceAdd, this]
    refine ⟨hK1, ?_⟩
    rw [hv]
  | some keys =>
    rw [hv] at hm
    have hlen := nodesOf_len (trieV_some.mp hv).1
    simp (disch := first | omega | assumption | (simp only [size_alloc, size_put] <;> omega) | (simp only [RK, Nat.reduceAdd] <;> omega) | fail) only [R1, R, Nat.reduceBEq, Nat.reduceAdd, hm.1.len, in_eq]
    by_cases hi : 0 ≤ i ∧ i ≤ (nodesOf keys).length - 1
    · have : (decide (0 ≤ i) && decide (i ≤ ((nodesOf keys).length : Int) - 1)) = true := by
        rw [decide_eq_true hi.1, decide_eq_true hi.2]; rfl
      simp (disch := first | omega | assumption | (simp only [size_alloc, size_put] <;> omega) | (simp only [RK, Nat.reduceAdd] <;> omega) | fail) only [R1, R, Nat.reduceBEq, Nat.reduceAdd, this, hm.1.r]
      refine ⟨hK1, ?_⟩
      rw [hv]
      simp only
      rw [if_pos hi]
      exact ⟨w, rfl, hm.1⟩
    · have : (decide (0 ≤ i) && decide (i ≤ ((nodesOf keys).length : Int) - 1)) = false := by
        rw [Bool.and_eq_false_iff, decide_eq_false_iff_not, decide_eq_false_iff_not]; omega
      simp (disch := first | omega | assumption | (simp only [size_alloc, size_put] <;> omega) | (simp only [RK, Nat.reduceAdd] <;> omega) | fail) only [R1, R, Nat.reduceBEq, Nat.reduceAdd, this]
      refine ⟨hK1, ?_⟩
      rw [hv]
      simp only
      rw [if_neg hi]
      trivial

/-- The parent of a node, and whether there is one. -/
noncomputable def parentR (T : TrieT) (i : Int) : Int × Bool :=
  match trieV T with
  | some keys => if 1 ≤ i ∧ i ≤ (nodesOf keys).length - 1 then (fnd (nodesOf keys) (((nodesOf keys).getD i.toNat default).take (((nodesOf keys).getD i.toNat default).length - 1)), true) else (0, false)
  | none => (0, false)
def PairP (H : AH) (r : Int × Bool) : CPost := fun v' H' => v' = .tuple #[.int .i64 r.1, .bool r.2] ∧ Kp H H'

theorem node_pos {keys : List Str} {i : Nat} (h1 : 1 ≤ i) (h2 : i < (nodesOf keys).length) : 1 ≤ ((nodesOf keys).getD i default).length := by
  rw [getD_eq h2]
  obtain ⟨r, hr, hr1⟩ := @nodesOf_head keys
  cases i with
  | zero => omega
  | succ i =>
    simp only [hr, List.getElem_cons_succ]
    exact hr1 _ (List.getElem_mem _)
theorem parent_in {keys : List Str} {i : Nat} (h2 : i < (nodesOf keys).length) : 0 ≤ fnd (nodesOf keys) (((nodesOf keys).getD i default).take (((nodesOf keys).getD i default).length - 1)) := by
  rw [fnd_iff, mem_nodesOf]
  refine parent_node (mem_nodesOf.mp ?_)
  rw [getD_eq h2]; exact List.getElem_mem _

theorem iParentOf_ok {T : TrieT} {v1 v2 : Value} {i : Int} (hL : Wf H) (hT : TrieAt H T v1 v2) :
    ACalls Ez n_i_ParentOf [.agg #[.int .i64 T.n, v1, .int .i64 T.m, v2, sv T.lb], .int .i64 i] H (PairP H (parentR T i)) := by
  refine k_i_ParentOf rfl ?_
  generalize hHA : H.alloc ⟨[.int .i64 T.n, v1, .int .i64 T.m, v2, sv T.lb], 0⟩ = HA
  have hKA : Kp H HA := by rw [← hHA]; exact Kp.refl.alloc
  have hg : HA.get H.size = some ⟨trieC T v1 v2, 0⟩ := by rw [← hHA]; exact get_alloc_self rfl
  simp (disch := first | omega | assumption | (simp only [size_alloc, size_put] <;> omega) | (simp only [RK, Nat.reduceAdd] <;> omega) | fail) only [R1, R, Nat.reduceBEq, Nat.reduceAdd, b_i_ParentOf, hHA]
  refine (nodeAt_ok (hKA.wf hL) hg (hT.kp hKA)).imp ?_
  rintro v' H1 ⟨hK1, hm⟩
  unfold parentR
  cases hv : trieV T with
  | none =>
    rw [hv] at hm
    subst hm
    simp (disch := first | omega | assumption | (simp only [size_alloc, size_put] <;> omega) | (simp only [RK, Nat.reduceAdd] <;> omega) | fail) only [R1, R, Nat.reduceBEq, Nat.reduceAdd]
    exact ⟨rfl, hKA.trans hK1⟩
  | some keys =>
    rw [hv] at hm
    simp only at hm ⊢
    have hlen := nodesOf_len (trieV_some.mp hv).1
    by_cases hi : 0 ≤ i ∧ i ≤ (nodesOf keys).length - 1
    · rw [if_pos hi] at hm
      obtain ⟨w, rfl, hS⟩ := hm
      by_cases h0 : i = 0
      · simp (disch := first | omega | assumption | (simp only [size_alloc, size_put] <;> omega) | (simp only [RK, Nat.reduceAdd] <;> omega) | fail) only [R1, R, Nat.reduceBEq, Nat.reduceAdd, decide_eq_true h0]
        refine ⟨?_, hKA.trans hK1⟩
        rw [if_neg (by omega)]
      · have hb : i.toNat < (nodesOf keys).length := by omega
        have hp := node_pos (keys := keys) (i := i.toNat) (by omega) hb
        have hpi := parent_in (keys := keys) hb
        have e1 : ((((nodesOf keys).getD i.toNat default).length : Int) - 1).toNat = ((nodesOf keys).getD i.toNat default).length - 1 := by omega
        have hnl : ((nodesOf keys).getD i.toNat default).length ≤ 12 := by rw [getD_eq hb]; exact hlen.2 _ (List.getElem_mem hb)
        simp (disch := first | omega | assumption | (simp only [size_alloc, size_put] <;> omega) | (simp only [RK, Nat.reduceAdd] <;> omega) | fail) only [R1, R, Nat.reduceBEq, Nat.reduceAdd, decide_eq_false h0, e1]
        rw [placedAt_eq hS (by omega)]
        simp (disch := first | omega | assumption | (simp only [size_alloc, size_put] <;> omega) | (simp only [RK, Nat.reduceAdd] <;> omega) | fail) only [R1, R, Nat.reduceBEq, Nat.reduceAdd]
        refine ⟨?_, hKA.trans hK1⟩
        rw [if_neg (Int.not_lt.mpr hpi), if_pos (show 1 ≤ i ∧ i ≤ ((nodesOf keys).length : Int) - 1 by omega), decide_eq_true hpi]
    · rw [if_neg hi] at hm
      subst hm
      simp (disch := first | omega | assumption | (simp only [size_alloc, size_put] <;> omega) | (simp only [RK, Nat.reduceAdd] <;> omega) | fail) only [R1, R, Nat.reduceBEq, Nat.reduceAdd]
      refine ⟨?_, hKA.trans hK1⟩
      rw [if_neg (by omega)]
theorem sParentOf_ok {T : TrieT} {v1 v2 : Value} {i : Int} (hL : Wf H) (hT : TrieAt H T v1 v2) :
    ACalls Ez n_s_ParentOf [.agg #[.int .i64 T.n, v1, .int .i64 T.m, v2, sv T.lb], .int .i64 i] H (PairP H (parentR T i)) := by
  refine k_s_ParentOf rfl ?_
  generalize hHA : H.alloc ⟨[.int .i64 T.n, v1, .int .i64 T.m, v2, sv T.lb], 0⟩ = HA
  have hKA : Kp H HA := by rw [← hHA]; exact Kp.refl.alloc
  have hg : HA.get H.size = some ⟨trieC T v1 v2, 0⟩ := by rw [← hHA]; exact get_alloc_self rfl
  have hld := trie_ld hg
  simp (disch := first | omega | assumption | (simp only [size_alloc, size_put] <;> omega) | (simp only [RK, Nat.reduceAdd] <;> omega) | fail) only [R1, R, Nat.reduceBEq, Nat.reduceAdd, b_s_ParentOf, hHA, hld]
  refine (trOk_ok (hKA.wf hL) (hT.kp hKA)).imp ?_
  rintro v' H1 ⟨hK1, hm⟩
  unfold parentR
  cases hv : trieV T with
  | none =>
    rw [hv] at hm
    subst hm
    simp (disch := first | omega | assumption | (simp only [size_alloc, size_put] <;> omega) | (simp only [RK, Nat.reduceAdd] <;> omega) | fail) only [R1, R, Nat.reduceBEq, Nat.reduceAdd]
    exact ⟨rfl, hKA.trans hK1⟩
  | some keys =>
    rw [hv] at hm
    obtain ⟨w, rfl, hS⟩ := hm
    simp only
    have hlen := nodesOf_len (trieV_some.mp hv).1
    simp (disch := first | omega | assumption | (simp only [size_alloc, size_put] <;> omega) | (simp only [RK, Nat.reduceAdd] <;> omega) | fail) only [R1, R, Nat.reduceBEq, Nat.reduceAdd, hS.r, l1In_eq]
    by_cases hi : 1 ≤ i ∧ i ≤ (nodesOf keys).length - 1
    · have : (decide (1 ≤ i) && decide (i ≤ ((nodesOf keys).length : Int) - 1)) = true := by
        rw [decide_eq_true hi.1, decide_eq_true hi.2]; rfl
      have hb : i.toNat < (nodesOf keys).length := by omega
      have hp := node_pos (keys := keys) (i := i.toNat) (by omega) hb
      have e1 : ((((nodesOf keys).getD i.toNat default).length : Int) - 1).toNat = ((nodesOf keys).getD i.toNat default).length - 1 := by omega
      have hnl : ((nodesOf keys).getD i.toNat default).length ≤ 12 := by rw [getD_eq hb]; exact hlen.2 _ (List.getElem_mem hb)
      simp (disch := first | omega | assumption | (simp only [size_alloc, size_put] <;> omega) | (simp only [RK, Nat.reduceAdd] <;> omega) | fail) only [R1, R, Nat.reduceBEq, Nat.reduceAdd, this, hS.r, e1]
      rw [trFind_eq hS (by omega)]
      simp (disch := first | omega | assumption | (simp only [size_alloc, size_put] <;> omega) | (simp only [RK, Nat.reduceAdd] <;> omega) | fail) only [R1, R, Nat.reduceBEq, Nat.reduceAdd]
      refine ⟨?_, hKA.trans hK1⟩
      rw [if_pos hi]
    · have : (decide (1 ≤ i) && decide (i ≤ ((nodesOf keys).length : Int) - 1)) = false := by
        rw [Bool.and_eq_false_iff, decide_eq_false_iff_not, decide_eq_false_iff_not]; omega
      simp (disch := first | omega | assumption | (simp only [size_alloc, size_put] <;> omega) | (simp only [RK, Nat.reduceAdd] <;> omega) | fail) only [R1, R, Nat.reduceBEq, Nat.reduceAdd, this]
      refine ⟨?_, hKA.trans hK1⟩
      rw [if_neg hi]
end Go.AE
set_option linter.unusedVariables false
set_option linter.unusedSimpArgs false
namespace Go.AE
variable {H : AH}

/-- A struct of a trie that came in. -/
structure TrieIn (H : AH) (T : TrieT) (v1 v2 : Value) : Prop where
  ws : Ints H v1 T.ws
  es : Ints H v2 T.es
  wl : T.ws.length ≤ 9223372036854775807
  el : T.es.length ≤ 9223372036854775807
  ll : T.lb.length ≤ 9223372036854775807
theorem TrieIn.at {T : TrieT} {v1 v2 : Value} (h : TrieIn H T v1 v2) (hs : ¬ szT T 1048576 < 0) : TrieAt H T v1 v2 := by
  unfold szT at hs
  split at hs
  · exact absurd (by decide : (-1 : Int) < 0) hs
  · refine ⟨h.ws, h.es, ?_, ?_, ?_⟩ <;> omega
theorem CopyT.at {H H' : AH} {T : TrieT} {u1 u2 v1 v2 : Value} (hs : Sep H.size H' [.own (Value.int .i64) u1 T.ws, .own (Value.int .i64) u2 T.es]) (h : TrieAt H T v1 v2) : TrieAt H' T u1 u2 := ⟨hs.get 0 rfl, hs.get 1 rfl, h.wl, h.el, h.ll⟩

theorem lawParentOf {T : TrieT} {v1 v2 : Value} {i : Int} (hL : Wf H) (hT0 : TrieIn H T v1 v2) :
    ACalls Ez n_l_FnExactParentOf [.agg #[.int .i64 T.n, v1, .int .i64 T.m, v2, sv T.lb], .int .i64 i] H (fun v' _ => v' = .bool true) := by
  refine k_l_FnExactParentOf rfl ?_
  generalize hHA : H.alloc ⟨[.int .i64 T.n, v1, .int .i64 T.m, v2, sv T.lb], 0⟩ = HA
  have hKA : Kp H HA := by rw [← hHA]; exact Kp.refl.alloc
  have hg : HA.get H.size = some ⟨trieC T v1 v2, 0⟩ := by rw [← hHA]; exact get_alloc_self rfl
  have hld := trie_ld hg
  have hLA := hKA.wf hL
  simp (disch := first | omega | assumption | (simp only [size_alloc, size_put] <;> omega) | (simp only [RK, Nat.reduceAdd] <;> omega) | fail) only [R1, R, Nat.reduceBEq, Nat.reduceAdd, b_l_FnExactParentOf, hHA, hld]
  refine (szTrie_ok (hT0.ws.kp hKA) (hT0.es.kp hKA) hT0.wl hT0.el hT0.ll).ret fun H1 hK1 => ?_
  by_cases hsz : szT T 1048576 < 0
  · simp (disch := first | omega | assumption | (simp only [size_alloc, size_put] <;> omega) | (simp only [RK, Nat.reduceAdd] <;> omega) | fail) only [R1, R, Nat.reduceBEq, Nat.reduceAdd, decide_eq_true hsz]
  have hT := hT0.at hsz
  have hTA := hT.kp hKA
  have hld1 := trie_ld (hK1.get hg)
  simp (disch := first | omega | assumption | (simp only [size_alloc, size_put] <;> omega) | (simp only [RK, Nat.reduceAdd] <;> omega) | fail) only [R1, R, Nat.reduceBEq, Nat.reduceAdd, decide_eq_false hsz, hld1]
  refine (toTrie_ok (hK1.wf hLA) (hTA.kp hK1)).imp ?_
  rintro v3 H2 ⟨a1, a2, rfl, hs2, hK2⟩
  have hT2 := CopyT.at hs2 (hTA.kp hK1)
  have hL2 := (hK1.trans hK2).wf hLA
  simp (disch := first | omega | assumption | (simp only [size_alloc, size_put] <;> omega) | (simp only [RK, Nat.reduceAdd] <;> omega) | fail) only [R1, R, Nat.reduceBEq, Nat.reduceAdd]
  refine (sParentOf_ok hL2 hT2).imp ?_
  rintro v4 H3 ⟨rfl, hK3⟩
  have hKA3 := hK1.trans (hK2.trans hK3)
  have hld3 := trie_ld (hKA3.get hg)
  simp (disch := first | omega | assumption | (simp only [size_alloc, size_put] <;> omega) | (simp only [RK, Nat.reduceAdd] <;> omega) | fail) only [R1, R, Nat.reduceBEq, Nat.reduceAdd, hld3]
  refine (toTrie_ok (hKA3.wf hLA) (hTA.kp hKA3)).imp ?_
  rintro v5 H4 ⟨b1, b2, rfl, hs4, hK4⟩
  have hT4 := CopyT.at hs4 (hTA.kp hKA3)
  have hKA4 := hKA3.trans hK4
  have hL4 := hKA4.wf hLA
  have ho1 := hT4.ws.one
  have ho2 := hT4.es.one
  have hKB : Kp H4 (H4.alloc ⟨[.int .i64 T.n, b1, .int .i64 T.m, b2, sv T.lb], 0⟩) := Kp.refl.alloc
  generalize hHB : H4.alloc ⟨[.int .i64 T.n, b1, .int .i64 T.m, b2, sv T.lb], 0⟩ = HB at *
  have hgB : HB.get H4.size = some ⟨trieC T b1 b2, 0⟩ := by rw [← hHB]; exact get_alloc_self rfl
  have hldB := trie_ld hgB
  simp (disch := first | omega | assumption | (simp only [size_alloc, size_put] <;> omega) | (simp only [RK, Nat.reduceAdd, ho1.1, ho1.2, ho2.1, ho2.2] <;> omega) | fail) only [R1, R, Nat.reduceBEq, Nat.reduceAdd, store_all, hHB, hldB, ho1.1, ho1.2, ho2.1, ho2.2]
  refine (iParentOf_ok (hKB.wf hL4) (hT4.kp hKB)).imp ?_
  rintro v6 H6 ⟨rfl, hK6⟩
  have hld6 := trie_ld (hK6.get hgB)
  have hKA6 := hKA4.trans (hKB.trans hK6)
  have hld6' := trie_ld (hKA6.get hg)
  simp (disch := first | omega | assumption | (simp only [size_alloc, size_put] <;> omega) | (simp only [RK, Nat.reduceAdd] <;> omega) | fail) only [R1, R, Nat.reduceBEq, Nat.reduceAdd, decide_true, beq_self_eq_true, hld6, hld6']
  refine (toTrie_ok (hKA6.wf hLA) (hTA.kp hKA6)).imp ?_
  rintro v7 H7 ⟨c1, c2, rfl, hs7, hK7⟩
  have hT7 := CopyT.at hs7 (hTA.kp hKA6)
  simp (disch := first | omega | assumption | (simp only [size_alloc, size_put] <;> omega) | (simp only [RK, Nat.reduceAdd] <;> omega) | fail) only [R1, R, Nat.reduceBEq, Nat.reduceAdd]
  refine (eqTrie_ok (hT4.kp (hKB.trans (hK6.trans hK7))) hT7).ret fun H8 hK8 => ?_
  rw [sameT_self]
  simp (disch := first | omega | assumption | (simp only [size_alloc, size_put] <;> omega) | (simp only [RK, Nat.reduceAdd] <;> omega) | fail) only [R1, R, Nat.reduceBEq, Nat.reduceAdd]
  refine ADr_fin (ck_cons (ck_load rfl rfl rfl rfl rfl (kp_same hK7 (get_lt (hK6.get hgB)))) ck_nil) ?_
  simp (disch := first | omega | assumption | (simp only [size_alloc, size_put] <;> omega) | (simp only [RK, Nat.reduceAdd] <;> omega) | fail) only [R1, R, Nat.reduceBEq, Nat.reduceAdd]
end Go.AE
