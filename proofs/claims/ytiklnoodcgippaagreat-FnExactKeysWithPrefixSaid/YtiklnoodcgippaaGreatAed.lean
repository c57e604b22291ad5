/- What stands for Go's sorting does what the library's own text does; no condition. What stands for Go's sorting of strings; no condition. A call over plain numbers and strings: what it returns, and that the world has only grown; no condition. What stands for Go's comparing, sorting and leaving out equals, out of the library's contracts; no condition. What stands for Go's sorting by an order of one's own, and for leaving out equals; no condition. -/
import Derived.Test.YtiklnoodcgippaaGreatAeb
import Derived.Test.YtiklnoodcgippaaGreatAec
import Derived.Sort.Grow
import Derived.Sort.EncStr
import Derived.Deep.Draws
import Derived.Lib.SlicesCompact
import Derived.Lib.Bytealg
set_option linter.unusedSimpArgs false
set_option linter.unusedVariables false
set_option linter.unusedSectionVars false
set_option linter.unusedVariables false
set_option linter.unusedSimpArgs false
namespace Go.AE
open Go.RowKit (Below)
open Go.Sort

theorem grow_get (w : World) (os : Array Obj) {b : Nat} (h : b < w.heap.size) : (grow w os).heap[b]? = w.heap[b]? := by
  simp only [grow]
  rw [Array.getElem?_append_left h]

theorem step_grow {C : Ctx} {ι : Inj} {H : AH} {w : World} (h : Sim C ι H w) (os : Array Obj) : Step C ι H w ι H (grow w os) := by
  have hsz : w.heap.size ≤ (grow w os).heap.size := by simp [grow]
  have hb : Below C.B C.w0 (grow w os) := h.below.trans ⟨rfl, rfl, rfl, hsz, fun k hk => grow_get w os (Nat.lt_of_lt_of_le hk h.top)⟩
  refine ⟨.refl ι, fun i L h1 h2 => (by rw [h2] at h1; cases h1), Nat.le_refl _, rfl, hsz, fun b hb' _ => grow_get w os hb', ?_⟩
  exact ⟨hb, Nat.le_trans h.top hsz, h.ro, h.lo, fun i L b x y => (h.live i L b x y).mono (.refl ι) (grow_get w os (h.inw i L x)), h.own, h.arg, fun i L x => Nat.lt_of_lt_of_le (h.inw i L x) hsz, h.dis, h.dr⟩

theorem step_ahead {C : Ctx} {ι : Inj} {H : AH} {w : World} (h : Sim C ι H w) (n : Nat) : Step C ι H w ι H (Sort.ahead w n) := step_same h ⟨rfl, rfl, rfl, rfl, Nat.le_add_right _ _⟩

/-- A row of the call's own that holds something else. -/
theorem step_putRow {C : Ctx} {ι : Inj} {H H' : AH} {w : World} (P : Program) {α : Type} [Inhabited α] (h : Sim C ι H w) {i o : Nat} {L : Loc} (hi : ι i = some L) {enc : α → Value} {d : List α}
    (hw : H.write ⟨i, o, none⟩ (d.map enc) = some H') (hv : ∀ x, VR ι (enc x) (enc x)) : Step C ι H w ι H' (putRow enc w L.blk (L.base + o) d.toArray) := by
  obtain ⟨w1, hst, st⟩ := step_write h hi hw (VRL.map enc enc d fun x _ => hv x) P
  have hw' := hw
  unfold AH.write at hw'
  cases hb : H.get i with
  | none => simp [hb] at hw'
  | some b =>
    simp only [hb] at hw'
    split at hw'
    · rename_i hc
      obtain ⟨hlo, hlen, hone⟩ := hc
      have hro : C.ro ≤ i := Nat.le_trans h.ro hlo
      obtain ⟨cs, t, fr, a1, a2, a3, a4, a5, a6⟩ := h.live i L b hi hb
      obtain rfl := a2 hro
      have hone' : ∀ v ∈ d.map enc, v.oneCell' = true := fun v hm => List.all_eq_true.1 hone v hm
      have hst' := run_storeCells_at P L.blk (L.base + o) t (d.map enc) 0 cs w a1 (by omega) hone'
      simp only [Nat.add_zero] at hst'
      have e := hst.symm.trans hst'
      cases e
      have hlt : L.blk < w.heap.size := (Array.getElem?_eq_some_iff.1 a1).1
      refine Eq.mp ?_ st
      congr 1
      unfold World.setRow putRow mapBlock
      congr 1
      apply Array.ext_getElem?
      intro k
      simp only [Array.getElem?_modify]
      by_cases hk : L.blk = k
      · subst hk
        simp only [if_true, a1, Option.map_some, onCells]
        congr 2
        apply Array.ext_getElem?
        intro j
        have hmap : (d.map enc).length = d.length := by simp
        rw [← Array.getElem?_toList]
        show (splice cs.toList (L.base + o) (d.map enc))[j]? = _
        rw [splice_get (by simp; simp at hlen; omega)]
        simp only [putCells, Array.getElem?_mapIdx, Array.getElem?_toList, List.length_map, List.size_toArray]
        by_cases hr : L.base + o ≤ j ∧ j < L.base + o + d.length
        · rw [if_pos hr]
          have hjs : j < cs.size := by simp at hlen; omega
          rw [Array.getElem?_eq_getElem hjs, Option.map_some, if_pos hr]
          have hjd : j - (L.base + o) < d.length := by omega
          rw [List.getElem?_map, List.getElem?_eq_getElem hjd, Option.map_some]
          congr 2
          rw [getElem!_pos _ _ (by simpa using hjd)]
          simp
        · rw [if_neg hr]
          cases cs[j]? with
          | none => rfl
          | some x => simp only [Option.map_some, if_neg hr]
      · simp only [if_neg hk]
    · cases hw'

theorem vr_sv (ι : Inj) (s : Str) : VR ι (sv s) (sv s) := .string _

/-- What a heap's own row of strings holds in the world. -/
theorem holds_of {C : Ctx} {ι : Inj} {H : AH} {w : World} (h : Sim C ι H w) {i o n : Nat} {L : Loc} (hi : ι i = some L) (hro : C.ro ≤ i) {cs : List Value} {l : List Str} (hr : H.readN ⟨i, o, none⟩ n = some cs) (hl : cs = l.map sv) :
    Holds sv w L.blk (L.base + o) l.toArray := by
  unfold AH.readN at hr
  cases hb : H.get i with
  | none => simp [hb] at hr
  | some b =>
    simp only [hb] at hr
    split at hr
    · rename_i hc
      cases hr
      obtain ⟨ca, t, fr, a1, a2, a3, a4, a5, a6⟩ := h.live i L b hi hb
      obtain rfl := a2 hro
      intro j hj
      have hj' : j < l.length := by simpa using hj
      have hlen := congrArg List.length hl
      simp only [List.length_take, List.length_drop, List.length_map] at hlen
      have hn : j < n := by omega
      have hjb : o + j < b.cells.length := by omega
      obtain ⟨v', hv1, hv2⟩ := a6 (o + j) hjb
      have hcell : b.cells[o + j] = sv l[j] := by
        have := congrArg (fun l : List Value => l[j]?) hl
        simp only [List.getElem?_take, if_pos hn, List.getElem?_drop, List.getElem?_map, List.getElem?_eq_getElem hjb, List.getElem?_eq_getElem hj', Option.map_some, Option.some.injEq] at this
        exact this
      rw [hcell] at hv2
      have hv3 : v' = sv l[j] := by
        unfold sv at hv2 ⊢
        cases hv2; rfl
      subst hv3
      constructor
      · unfold World.cell?
        simp only [a1]
        rw [show L.base + o + j = L.base + (o + j) by omega, hv1]
        have e : l.toArray[j]! = l[j] := by rw [getElem!_pos l.toArray j hj]; simp
        rw [e]; rfl
      · unfold World.frozen?
        simp only [a1]
        simp
    · cases hr

theorem strsOf_eq {cs : List Value} {l : List Str} (h : strsOf cs = some l) : cs = l.map sv := by
  induction cs generalizing l with
  | nil => simp only [strsOf] at h; cases h; rfl
  | cons v r ih =>
    simp only [strsOf] at h
    cases hs : strOf v with
    | none => simp [hs] at h
    | some s =>
      cases hr : strsOf r with
      | none => simp [hs, hr] at h
      | some q =>
        simp only [hs, hr] at h
        cases h
        rw [List.map_cons, ← ih hr]
        congr 1
        cases v <;> simp [strOf] at hs
        rename_i b
        subst hs
        simp [sv]
end Go.AE
set_option linter.unusedVariables false
set_option linter.unusedSimpArgs false
namespace Go.AE
open Go.RowKit (Below)
open Go.Sort

theorem leS_dec : (fun x y : Str => decide (x ≤ y)) = leS := by
  funext x y
  simp only [leS]
  rw [Bool.eq_iff_iff]
  simp only [decide_eq_true_eq, Bool.not_eq_true', decide_eq_false_iff_not]
  exact Iff.rfl

theorem extTurn_gr {g : List Str → List Str} {v : Value} {H H' : AH} (h : extTurn g v H = some H') : Gr H H' := by
  unfold extTurn at h
  split at h
  · split at h
    · cases h; exact .refl _
    · split at h
      · split at h
        · split at h
          · exact .write h
          · cases h
        · cases h
      · cases h
  · cases h

theorem readN_len' {H : AH} {a : Addr} {n : Nat} {cs : List Value} (h : H.readN a n = some cs) : cs.length = n := by
  unfold AH.readN at h
  split at h
  · split at h
    · split at h
      · cases h; simp; omega
      · cases h
    · cases h
  · cases h
/-- A call that turns a row of strings in place. -/
theorem turn_sem {P : Program} {f : FuncId} {g : List Str → List Str} {rest : List Value} {v v' : Value} {H H' : AH} {C : Ctx} {ι : Inj} {w : World}
    (hent : ∀ args w, (callFunc f args).run P w = .ok (.enter f args) w) (hg : ∀ l, (g l).length = l.length)
    (hcon : ∀ (blk off cap : Nat) (ss : List Str) (w : World), Holds sv w blk off ss.toArray → blk < w.heap.size → 0 < ss.length → ss.length < 4611686018427387904 →
      Calls P f (#[.slice (some ⟨blk, off, none⟩) ss.length cap] ++ rest.toArray) w fun e w' => e = .returned (.tuple #[]) ∧ ∃ n os, w' = grow (putRow sv (Sort.ahead w n) blk off (g ss).toArray) os)
    (hemp : ∀ a cap w, Calls P f (#[.slice a 0 cap] ++ rest.toArray) w fun e w' => e = .returned (.tuple #[]) ∧ ∃ n os, w' = grow (Sort.ahead w n) os)
    (h : extTurn g v H = some H') (hv : VR ι v v') (hs : Sim C ι H w) :
    CallSem P f (#[v'] ++ rest.toArray) w fun u w' => u = .tuple #[] ∧ Step C ι H w ι H' w' := by
  unfold extTurn at h
  have hempty : ∀ a cap, v' = .slice a 0 cap → H' = H → CallSem P f (#[v'] ++ rest.toArray) w fun u w' => u = .tuple #[] ∧ Step C ι H w ι H' w' := by
    rintro a cap rfl rfl
    refine .inl ⟨hent _ _, (hemp a cap w).mono ?_⟩
    rintro e w' ⟨rfl, n, os, rfl⟩
    have s1 := step_ahead hs n
    have s2 := step_grow s1.sim os
    refine ⟨_, rfl, rfl, ?_⟩
    exact ⟨.refl ι, fun i L h1 h2 => (by rw [h2] at h1; cases h1), Nat.le_refl _, rfl, s2.heap, fun b hb hall => (s2.frame b hb hall), s2.sim⟩
  split at h
  · rename_i a n c H0
    split at h
    · rename_i hn
      cases h
      subst hn
      cases hv with
      | sliceNil => exact hempty _ _ rfl rfl
      | sliceE a b => exact hempty _ _ rfl rfl
      | slice o n hι hc hr => exact hempty _ _ rfl rfl
    · rename_i hn
      split at h
      · rename_i a hmax
        have hmax := of_decide_eq_true hmax
        split at h
        · rename_i cs hread
          split at h
          · rename_i l hl
            cases hv with
            | sliceE a b => omega
            | @slice i L cc c' o m hι hc hr =>
              have hcs := strsOf_eq hl
              have hw := h
              unfold AH.write at h
              cases hb : H.get i with
              | none => simp [hb] at h
              | some b =>
                simp only [hb] at h
                split at h
                · rename_i hcond
                  have hro : C.ro ≤ i := Nat.le_trans hs.ro hcond.1
                  have hh := holds_of hs hι hro hread hcs
                  have hlen := (congrArg List.length hcs).symm.trans (readN_len' hread)
                  rw [List.length_map] at hlen
                  subst hlen
                  refine .inl ⟨hent _ _, (hcon L.blk (L.base + o) c' l w hh (hs.inw i L hι) (by omega) (by omega)).mono ?_⟩
                  rintro e w' ⟨rfl, q, os, rfl⟩
                  have s1 := step_ahead hs q
                  have s2 := step_putRow P s1.sim hι hw (vr_sv ι)
                  have s3 := step_grow s2.sim os
                  refine ⟨_, rfl, rfl, ?_⟩
                  refine ⟨.refl ι, fun i L h1 h2 => (by rw [h2] at h1; cases h1), s2.size, s2.lo, Nat.le_trans s2.heap s3.heap, fun b' hb' hall => ?_, s3.sim⟩
                  rw [grow_get _ _ (Nat.lt_of_lt_of_le hb' s2.heap)]
                  exact s2.frame b' hb' hall
                · cases h
          · cases h
        · cases h
      · cases h
  · cases h
end Go.AE
set_option linter.unusedVariables false
set_option linter.unusedSimpArgs false
namespace Go.AE
open Go.RowKit (Below)
open Go.Sort

theorem world_grown {w w' : World} (hb : Below w.heap.size w w') (hd : w.drawn ≤ w'.drawn) : ∃ q os, w' = grow (w.drewN q) os := by
  refine ⟨w'.drawn - w.drawn, w'.heap.extract w.heap.size w'.heap.size, ?_⟩
  have hh : w'.heap = w.heap ++ w'.heap.extract w.heap.size w'.heap.size := by
    apply Array.ext_getElem?
    intro i
    by_cases hi : i < w.heap.size
    · rw [Array.getElem?_append_left hi]; exact hb.block i hi
    · rw [Array.getElem?_append_right (by omega), Array.getElem?_extract]
      by_cases h2 : i < w'.heap.size
      · rw [if_pos (by omega)]; congr 1; omega
      · rw [if_neg (by omega), Array.getElem?_eq_none (by omega)]
  have h1 := hb.os
  have h2 := hb.tape
  have h3 := hb.output
  cases w'
  simp only [grow, World.drewN] at *
  subst h1; subst h2; subst h3
  congr 1
  omega

theorem calls_plain {P : Program} {X : Nat → Option Ext} (hm : P.follows .mixedOrders = true) (hX : XOk P X) {f : Nat} {args args' : List Value} {v : Value} {w : World}
    (ha : VRL (fun _ => none) args args') (hv : ∀ ι v', VR ι v v' → v' = v) (he : (callFunc f args'.toArray).run P w = .ok (.enter f args'.toArray) w) (h : ACalls ⟨P, X⟩ f args ⟨[], 0⟩ (fun v' _ => v' = v)) :
    Calls P f args'.toArray w fun e w' => e = .returned v ∧ ∃ q os, w' = grow (w.drewN q) os := by
  obtain ⟨k, v1, H', h1, rfl⟩ := h
  have hs : Sim ⟨0, w.heap.size, w⟩ (fun _ => none) ⟨[], 0⟩ w :=
    ⟨Below.refl _ _, Nat.le_refl _, Nat.le_refl _, Nat.le_refl _, (fun i L b h => by cases h), (fun i L h => by cases h), (fun i L h => by cases h), (fun i L h => by cases h), (fun i j L M h => by cases h), Nat.le_refl _⟩
  rcases (callK_ok hm hX k).1 f args _ v1 H' h1 _ _ w args' H'.size ha hs (fun _ _ _ => rfl) (Nat.le_refl _) with ⟨_, hc⟩ | ⟨v', w', hr, _⟩
  · refine hc.mono ?_
    rintro e w' ⟨v', rfl, ι', hv', st⟩
    exact ⟨by rw [hv _ _ hv'], world_grown st.sim.below st.sim.dr⟩
  · rw [he] at hr; cases hr
end Go.AE
set_option linter.unusedVariables false
set_option linter.unusedSimpArgs false
namespace Go.AE
open Go.RowKit (Below)
open Go.Sort

theorem CallSem.mono {P : Program} {f : FuncId} {args : Array Value} {w : World} {R R' : Value → World → Prop} (h : CallSem P f args w R) (hi : ∀ v w, R v w → R' v w) : CallSem P f args w R' := by
  rcases h with ⟨h1, h2⟩ | ⟨v, w', h1, h2⟩
  · exact .inl ⟨h1, h2.mono fun e w' ⟨v, h3, h4⟩ => ⟨v, h3, hi _ _ h4⟩⟩
  · exact .inr ⟨v, w', h1, hi _ _ h2⟩

theorem compact_cons {a b : Str} {r : List Str} : Lib.compact (a :: b :: r) = if a = b then Lib.compact (b :: r) else a :: Lib.compact (b :: r) := by
  have hget : ∀ (l : List Str) j, l.toArray[j]! = l.getD j default := by
    intro l j
    by_cases hj : j < l.length
    · rw [getElem!_pos _ _ (by simpa using hj)]; simp [List.getD, List.getElem?_eq_getElem hj]
    · rw [getElem!_neg _ _ (by simpa using hj)]; simp [List.getD, List.getElem?_eq_none (Nat.le_of_not_lt hj)]
  have hk : ∀ j, 1 ≤ j → Lib.keeps (a :: b :: r).toArray (j + 1) = Lib.keeps (b :: r).toArray j := by
    intro j hj
    obtain ⟨j, rfl⟩ : ∃ q, j = q + 1 := ⟨j - 1, by omega⟩
    simp only [Lib.keeps, hget]
    simp
  have e1 : Lib.compact (b :: r) = b :: (((List.range r.length).map Nat.succ).filter (Lib.keeps (b :: r).toArray)).map ((b :: r).toArray[·]!) := by
    unfold Lib.compact Lib.compactUpTo
    rw [List.length_cons, List.range_succ_eq_map, List.filter_cons, if_pos (by simp [Lib.keeps]), List.map_cons]
    rfl
  have e2 : Lib.compact (a :: b :: r) = a :: ((if a = b then [] else [b]) ++ (((List.range r.length).map Nat.succ).filter (Lib.keeps (b :: r).toArray)).map ((b :: r).toArray[·]!)) := by
    unfold Lib.compact Lib.compactUpTo
    rw [List.length_cons, List.length_cons, List.range_succ_eq_map, List.filter_cons, if_pos (by simp [Lib.keeps]), List.map_cons]
    congr 1
    rw [List.range_succ_eq_map, List.map_cons, List.filter_cons, List.map_map]
    have hone : Lib.keeps (a :: b :: r).toArray (Nat.succ 0) = !decide (a = b) := by
      simp only [Lib.keeps, hget]
      by_cases h : a = b
      · subst h; simp
      · have h' : ¬ b = a := fun e => h e.symm
        simp [h, h']
    have hrest : (List.filter (Lib.keeps (a :: b :: r).toArray) (List.map (Nat.succ ∘ Nat.succ) (List.range r.length))).map ((a :: b :: r).toArray[·]!) = (((List.range r.length).map Nat.succ).filter (Lib.keeps (b :: r).toArray)).map ((b :: r).toArray[·]!) := by
      rw [List.filter_map, List.filter_map, List.map_map, List.map_map]
      have ef : (Lib.keeps (a :: b :: r).toArray ∘ (Nat.succ ∘ Nat.succ)) = (Lib.keeps (b :: r).toArray ∘ Nat.succ) := by
        funext j; exact hk (j + 1) (by omega)
      rw [ef]
      refine List.map_congr_left fun j _ => ?_
      simp only [Function.comp, hget]
      simp
    rw [hone]
    by_cases h : a = b
    · rw [if_pos h, decide_eq_true h, if_neg (by simp), List.nil_append]; exact hrest
    · rw [if_neg h, decide_eq_false h, if_pos (by rfl), List.map_cons, hrest]; simp [hget]
  rw [e2, e1]
  by_cases h : a = b
  · rw [if_pos h, if_pos h, h]; rfl
  · rw [if_neg h, if_neg h]; rfl
theorem compact_dedup {l : List Str} : Lib.compact l = dedup l := by
  induction l using dedup.induct with
  | case1 => rfl
  | case2 a => simp [Lib.compact, Lib.compactUpTo, Lib.keeps, dedup, List.range_succ]
  | case3 b r ih => rw [compact_cons, if_pos rfl, dedup, if_pos rfl, ih]
  | case4 a b r hne ih => rw [compact_cons, if_neg hne, dedup, if_neg hne, ih]

theorem compareBytes_eq : ∀ {a b : Str}, Lib.compareBytes a b = if a < b then -1 else if b < a then 1 else 0
  | [], [] => by simp [Lib.compareBytes]
  | [], _ :: _ => by simp [Lib.compareBytes]
  | _ :: _, [] => by simp [Lib.compareBytes]
  | x :: p, y :: q => by
    have ih := @compareBytes_eq p q
    simp only [Lib.compareBytes, ih, List.cons_lt_cons_iff]
    by_cases h1 : x < y
    · simp [h1]
    · by_cases h2 : y < x
      · have hne : ¬ x = y := by rintro rfl; exact h1 h2
        simp [h1, h2, hne]
      · have he : x = y := by
          rw [UInt8.lt_iff_toNat_lt] at h1 h2
          exact UInt8.toNat_inj.mp (by omega)
        simp [h1, h2, he]

/-- strings.Compare -/
theorem extCompare_ok {P : Program} {f : FuncId} (hent : ∀ args w, (callFunc f args).run P w = .ok (.enter f args) w)
    (hcon : ∀ (a b : ByteArray) (w : World), Calls P f #[.string a, .string b] w fun e w' => e = .returned (.int .i64 (Lib.compareBytes a.data.toList b.data.toList)) ∧ w' = w) : ExtOk P f extCompare := by
  refine ⟨?_, ?_⟩
  · intro args H v H' h
    unfold extCompare at h
    split at h
    · cases h; exact .refl _
    · cases h
  · intro args H v H' h C ι w args' top ha hs hu ht
    unfold extCompare at h
    split at h
    · rename_i a b
      cases h
      obtain ⟨hl, hg⟩ := ha
      match args', hl, hg with
      | [x, y], _, hg =>
        have h0 := hg 0 (by simp) (by simp)
        have h1 := hg 1 (by simp) (by simp)
        simp only [List.getElem_cons_zero, List.getElem_cons_succ] at h0 h1
        cases h0; cases h1
        refine .inl ⟨hent _ _, (hcon a b w).mono ?_⟩
        rintro e w' ⟨rfl, rfl⟩
        refine ⟨_, rfl, ι, ?_, .refl hs⟩
        rw [compareBytes_eq]
        exact .int _ _
    · cases h

/-- slices.Sort of strings -/
theorem extSort_ok {P : Program} {f : FuncId} (hent : ∀ args w, (callFunc f args).run P w = .ok (.enter f args) w)
    (hcon : ∀ (blk off cap : Nat) (ss : List Str) (w : World), Holds sv w blk off ss.toArray → blk < w.heap.size → ss.length < 4611686018427387904 →
      Calls P f #[.slice (some ⟨blk, off, none⟩) ss.length cap] w fun e w' => e = .returned (.tuple #[]) ∧ ∃ n os, w' = grow (putRow sv (Sort.ahead w n) blk off (ss.mergeSort fun x y => decide (x ≤ y)).toArray) os)
    (hemp : ∀ a cap w, Calls P f #[.slice a 0 cap] w fun e w' => e = .returned (.tuple #[]) ∧ w' = w) : ExtOk P f extSort := by
  refine ⟨?_, ?_⟩
  · intro args H v H' h
    unfold extSort at h
    split at h
    · split at h
      · rename_i h1; cases h; exact extTurn_gr h1
      · cases h
    · cases h
  · intro args H v H' h C ι w args' top ha hs hu ht
    unfold extSort at h
    split at h
    · rename_i x
      split at h
      · rename_i H1 h1
        cases h
        obtain ⟨hl, hg⟩ := ha
        match args', hl, hg with
        | [y], _, hg =>
          have h0 := hg 0 (by simp) (by simp)
          simp only [List.getElem_cons_zero] at h0
          have := turn_sem (rest := []) hent (g := fun l => l.mergeSort leS) (fun l => List.length_mergeSort _) (fun blk off cap ss w a b _ c => by
            have := hcon blk off cap ss w a b c
            rw [leS_dec] at this; exact this) (fun a cap w => (hemp a cap w).mono fun e w' ⟨h1, h2⟩ => ⟨h1, 0, #[], by rw [h2, Sort.ahead_zero, grow_empty]⟩) h1 h0 hs
          exact this.mono fun u w' ⟨e, st⟩ => ⟨ι, by rw [e]; exact .tuple rfl (fun j a => by simp at a), st⟩
      · cases h
    · cases h
end Go.AE
set_option linter.unusedVariables false
set_option linter.unusedSimpArgs false
namespace Go.AE
open Go.RowKit (Below)
open Go.Sort

theorem vr_func0 {ι : Inj} {fn : Fn} {z : Value} (h : VR ι (.func fn #[] #[]) z) : z = .func fn #[] #[] := by
  generalize hv : Value.func fn #[] #[] = v at h
  cases h with
  | func fn' a1 a2 a3 a4 =>
    rename_i xs ys us vs
    cases hv
    have e1 : ys = #[] := Array.size_eq_zero_iff.mp (by simpa using a1.symm)
    have e2 : vs = #[] := Array.size_eq_zero_iff.mp (by simpa using a3.symm)
    rw [e1, e2]
  | _ => cases hv
theorem put_same {H : AH} {i : Nat} {b : Blk} (h : H.get i = some b) : H.put i (some b) = H := by
  unfold AH.get at h
  unfold AH.put
  have hi : i < H.bs.length := by
    by_cases hi : i < H.bs.length
    · exact hi
    · rw [List.getElem?_eq_none (by omega)] at h; cases h
  rw [List.getElem?_eq_getElem hi] at h
  have e : H.bs[i] = some b := by simpa using h
  rw [← e, List.set_getElem_self]
theorem write_nil' {H H' : AH} {a : Addr} (h : H.write a [] = some H') : H' = H := by
  unfold AH.write at h
  split at h
  · split at h
    · rename_i b hb
      split at h
      · rename_i hc
        cases h
        have e : ∀ o, splice b.cells o [] = b.cells := by
          intro o; unfold splice; simp
        rw [e]; exact put_same hb
      · cases h
    · cases h
  · cases h
theorem extSortBy_ok {P : Program} {f g : FuncId} {le : Str → Str → Bool} (hent : ∀ args w, (callFunc f args).run P w = .ok (.enter f args) w)
    (hcon : ∀ (blk off cap : Nat) (ss : List Str) (w : World), Holds sv w blk off ss.toArray → blk < w.heap.size → ss.length < 4611686018427387904 →
      Calls P f #[.slice (some ⟨blk, off, none⟩) ss.length cap, .func (.func g) #[] #[]] w fun e w' => e = .returned (.tuple #[]) ∧ ∃ n os, w' = grow (putRow sv (Sort.ahead w n) blk off (ss.mergeSort le).toArray) os)
    (hemp : ∀ a cap w, Calls P f #[.slice a 0 cap, .func (.func g) #[] #[]] w fun e w' => e = .returned (.tuple #[]) ∧ w' = w) : ExtOk P f (extSortBy g le) := by
  refine ⟨?_, ?_⟩
  · intro args H v H' h
    unfold extSortBy at h
    split at h
    · split at h
      · split at h
        · rename_i h1; cases h; exact extTurn_gr h1
        · cases h
      · cases h
    · cases h
  · intro args H v H' h C ι w args' top ha hs hu ht
    unfold extSortBy at h
    split at h
    · rename_i x g' fs cs
      split at h
      · rename_i hc
        obtain ⟨rfl, hf, hcs⟩ := hc
        have hf' : fs = #[] := Array.size_eq_zero_iff.mp hf
        have hcs' : cs = #[] := Array.size_eq_zero_iff.mp hcs
        subst hf'; subst hcs'
        split at h
        · rename_i H1 h1
          cases h
          obtain ⟨hl, hg⟩ := ha
          match args', hl, hg with
          | [y, z], _, hg =>
            have h0 := hg 0 (by simp) (by simp)
            have hz := hg 1 (by simp) (by simp)
            simp only [List.getElem_cons_zero, List.getElem_cons_succ] at h0 hz
            have ez : z = .func (.func g') #[] #[] := vr_func0 hz
            subst ez
            have := turn_sem (rest := [.func (.func g') #[] #[]]) hent (g := fun l => l.mergeSort le) (fun l => List.length_mergeSort _) (fun blk off cap ss w a b _ c => hcon blk off cap ss w a b c)
              (fun a cap w => (hemp a cap w).mono fun e w' ⟨h1, h2⟩ => ⟨h1, 0, #[], by rw [h2, Sort.ahead_zero, grow_empty]⟩) h1 h0 hs
            exact this.mono fun u w' ⟨e, st⟩ => ⟨ι, by rw [e]; exact .tuple rfl (fun j a => by simp at a), st⟩
        · cases h
      · cases h
    · cases h

theorem extCompact_isok {P : Program} {f : FuncId} (hent : ∀ args w, (callFunc f args).run P w = .ok (.enter f args) w)
    (hcon : ∀ (blk off cap : Nat) (ss : List Str) (w : World), Holds sv w blk off ss.toArray → ss.length ≤ 9223372036854775807 → ss.length ≤ cap →
      Calls P f #[.slice (some ⟨blk, off, none⟩) ss.length cap] w fun e w' => e = .returned (.slice (some ⟨blk, off, none⟩) (Lib.compact ss).length cap) ∧ ∃ q, w' = putRow sv (Sort.ahead w q) blk off (Lib.compact ss ++ List.replicate (ss.length - (Lib.compact ss).length) []).toArray)
    (hemp : ∀ a cap w, Calls P f #[.slice a 0 cap] w fun e w' => e = .returned (.slice a 0 cap) ∧ w' = w) : ExtOk P f extCompact := by
  refine ⟨?_, ?_⟩
  · intro args H v H' h
    unfold extCompact at h
    split at h
    · cases h; exact .refl _
    · split at h
      · split at h
        · split at h
          · rename_i hw; cases h; exact .write hw
          · cases h
        · cases h
      · cases h
    · cases h
  · intro args H v H' h C ι w args' top ha hs hu ht
    unfold extCompact at h
    obtain ⟨hl, hg⟩ := ha
    split at h
    · cases h
      match args', hl, hg with
      | [y], _, hg =>
        have h0 := hg 0 (by simp) (by simp)
        simp only [List.getElem_cons_zero] at h0
        cases h0
        refine .inl ⟨hent _ _, (hemp none 0 w).mono ?_⟩
        rintro e w' ⟨rfl, rfl⟩
        exact ⟨_, rfl, ι, .sliceNil, .refl hs⟩
    · rename_i a n c
      split at h
      · rename_i cs hread
        split at h
        · rename_i l hl' hdec
          split at h
          · rename_i H1 hw
            cases h
            match args', hl, hg with
            | [y], _, hg =>
              have h0 := hg 0 (by simp) (by simp)
              simp only [List.getElem_cons_zero] at h0
              have hcs := strsOf_eq hl'
              have hlen := (congrArg List.length hcs).symm.trans (readN_len' hread)
              rw [List.length_map] at hlen
              by_cases hn : l = []
              · subst hn
                have hn0 : n = 0 := hlen.symm
                subst hn0
                have e : H' = H := write_nil' (a := a) (by simpa [dedup] using hw)
                subst e
                have hy : ∃ b c', y = .slice b 0 c' := by cases h0 <;> exact ⟨_, _, rfl⟩
                obtain ⟨b, c', rfl⟩ := hy
                refine .inl ⟨hent _ _, (hemp b c' w).mono ?_⟩
                rintro e w' ⟨rfl, rfl⟩
                exact ⟨_, rfl, ι, h0, .refl hs⟩
              · have hpos : 0 < l.length := List.length_pos_iff.mpr hn
                cases h0 with
                | sliceE a b => omega
                | @slice i L cc c' o m hι hc hr =>
                  have hw2 := hw
                  unfold AH.write at hw2
                  cases hb : H.get i with
                  | none => simp [hb] at hw2
                  | some b =>
                    simp only [hb] at hw2
                    split at hw2
                    · rename_i hcond
                      have hro : C.ro ≤ i := Nat.le_trans hs.ro hcond.1
                      have hh := holds_of hs hι hro hread hcs
                      subst hlen
                      have hmax := of_decide_eq_true hdec
                      have hle : l.length ≤ 9223372036854775807 := by omega
                      have hlc : l.length ≤ c' := by omega
                      refine .inl ⟨hent _ _, (hcon L.blk (L.base + o) c' l w hh hle hlc).mono ?_⟩
                      rw [compact_dedup]
                      rintro e w' ⟨rfl, q, rfl⟩
                      have s1 := step_ahead hs q
                      have s2 := step_putRow P s1.sim hι hw (vr_sv ι)
                      refine ⟨_, rfl, ι, VR.slice o _ hι hc hr, ?_⟩
                      exact ⟨.refl ι, fun i L h1 h2 => (by rw [h2] at h1; cases h1), s2.size, s2.lo, s2.heap, fun b' hb' hall => s2.frame b' hb' hall, s2.sim⟩
                    · cases hw2
          · cases h
        · cases h
      · cases h
    · cases h
end Go.AE
