/- The row of the law FnExactKeysWithPrefix; no condition. -/
import Derived.Test.YtiklnoodcgippaaGreatTrd
import Derived.Test.YtiklnoodcgippaaGreatXok
import Derived.Test.YtiklnoodcgippaaGreatAec
import Derived.Test.YtiklnoodcgippaaGreatFactsP
set_option linter.unusedSimpArgs false
set_option linter.unusedVariables false
set_option linter.unusedSectionVars false
namespace Go.Proofs.YtiklnoodcgippaaGreat.fnExactKeysWithPrefix
open Go.ChangeShapes Go.WideShapes Go.ChangeAt Go.RowKit
open Go.ChangeMaps (open_string shut_string)
open Go.AE
set_option linter.unusedVariables false
theorem own : ownKnob Tryz.prog.godebug = none := by kernel_rfl
theorem laidOut : laidOutB Tryz.prog = true := by kernel_rfl

theorem walk (W : World) (n m : Int) (x1 : ByteArray) (s1 s2 : ArgS) (l1 l2 : List Int) (lb : ByteArray) (b1 : s1.Ok W) (b2 : s2.Ok W) (c1 : s1.cells = l1.map (Value.int .i64)) (c2 : s2.cells = l2.map (Value.int .i64))
    (d1 : s1.len ≤ 9223372036854775807) (d2 : s2.len ≤ 9223372036854775807) (d3 : lb.size ≤ 9223372036854775807) :
    Calls Tryz.prog 12 #[.agg #[.int .i64 n, s1.val, .int .i64 m, s2.val, .string lb], .string x1] W fun e W' => e = .returned (.bool true) ∧ Below W.heap.size W W' := by
  have hss : ∀ s ∈ [s1, s2], s.Ok W := by
    intro s hs
    rcases List.mem_cons.mp hs with rfl | hs
    · exact b1
    · rw [List.mem_singleton] at hs; rw [hs]; exact b2
  have v1 := arg_vr hss (i := 0) (s := s1) rfl
  have v2 := arg_vr hss (i := 1) (s := s2) rfl
  have t1 := arg_sl (ss := [s1, s2]) (i := 0) rfl b1 c1
  have t2 := arg_sl (ss := [s1, s2]) (i := 1) rfl b2 c2
  have h := lawKeysWithPrefix (T := ⟨n, l1.take s1.len, m, l2.take s2.len, lb.data.toList⟩) (s := x1.data.toList) (H := argH [s1, s2]) (show (argH [s1, s2]).lo ≤ (argH [s1, s2]).size by rw [argH_size]; exact Nat.le_refl _)
    ⟨t1, t2, Nat.le_trans (List.length_take_le _ _) d1, Nat.le_trans (List.length_take_le _ _) d2, d3⟩
  exact calls_true (X := Xz) mixed xz_ok (f := 12) (args := [.agg #[.int .i64 n, s1.abs 0, .int .i64 m, s2.abs 1, sv lb.data.toList], sv x1.data.toList]) (args' := [.agg #[.int .i64 n, s1.val, .int .i64 m, s2.val, .string lb], .string x1]) hss
    (.cons (.agg rfl fun j a b => by
      match j, a with
      | 0, _ => exact .int _ _
      | 1, _ => exact v1
      | 2, _ => exact .int _ _
      | 3, _ => exact v2
      | 4, _ => exact .string _) (.cons (.string _) (.nil _)))
    (enters_of Tryz.func12 (by kernel_rfl) rfl _ _) h

set_option maxRecDepth 100000 in
theorem lifted (os : Os) (started : os.Started) (H : Type) (enc : TypeId × Value → H) :
    ReturnsInHanded {} Tryz.checked os 12 .any (Rows.fnExactKeysWithPrefixSpec.pre6 enc Tryz.prog Tryz.f12 Rows.fnExactKeysWithPrefixRow.domain false) (Rows.fnExactKeysWithPrefixSpec.post enc Tryz.prog Tryz.f12 false true false false) := by
  refine returnsInHanded_of_change_sized (C := Tryz.checked) own started (by kernel_rfl) Tryz.func12
    (ChangeSpec.witness6 (enc := enc) (C := Tryz.checked) false ⟨#[], #[.agg #[.int .i64 0, .slice none 0 0, .int .i64 0, .slice none 0 0, .string ByteArray.empty], .string ByteArray.empty], []⟩ 8 (by kernel_rfl) (by kernel_rfl) (by kernel_rfl) (by kernel_rfl)) ?_
  intro W base args ds gs before hval0 hW hcnd hsz0 _
  have hval : ∀ (j : Nat) t v, Tryz.f12.params[j]? = some t → args[j]? = some v → Value.okWide Tryz.prog W .any base t v := hval0
  have hW' := hW
  obtain ⟨p, q, hA0, hV, rfl, hfz, hnd⟩ := hW
  have hA : DataW.TrodAll enc Tryz.prog W 0 (fun _ => true) true Tryz.f12.params.toList args.toList ds p := hA0
  rw [Tryz.params12] at hA hval
  obtain ⟨v0, vs0, d0, ds0, p0, q0, hargs, rfl, rfl, h0, r0⟩ := trodAll_cons hA
  obtain ⟨v1, vs1, d1, ds1, p1, q1, rfl, rfl, rfl, h1, r1⟩ := trodAll_cons r0
  obtain ⟨rfl, rfl, rfl⟩ := trodAll_nil r1
  obtain rfl : args = #[v0, v1] := by cases args; simp_all
  obtain ⟨rfl, rfl⟩ := trodVars_none hV
  have k0 := h0
  have lt0 : ∀ x ∈ p0, x.block < W.heap.size := by obtain ⟨m, hm⟩ := k0; exact DataW.trod_lt m _ _ _ hm
  obtain ⟨n, m, s1, s2, l1, l2, lb, rfl, b1, b2, c1, c2, e1, e2, e3⟩ := open_trie Tryz.underlying80 Tryz.underlying78 ⟨rfl, rfl⟩ ⟨rfl, rfl⟩ ⟨rfl, rfl⟩ ⟨rfl, rfl⟩ ⟨rfl, rfl⟩ (by kernel_rfl) (by kernel_rfl) (by kernel_rfl) (by kernel_rfl) (by kernel_rfl) Tryz.underlying3 Tryz.underlying24 Tryz.underlying9 (hval 0 80 _ rfl rfl) h0
  obtain ⟨a1, rfl, rfl, rfl, w1⟩ := open_string Tryz.underlying9 (hval 1 9 v1 rfl rfl) h1
  clear hA0 hval0 hsz0
  refine (walk W n m a1 s1 s2 l1 l2 lb b1 b2 c1 c2 e1 e2 e3).mono fun e W' ⟨he, bel⟩ => ?_
  subst he
  exact ⟨_, rfl, _, _, _, [], _, [], hW', trodAll_mk1 (shut_bool Tryz.underlying4 _), (trodAll_cons_mk (Below.trod laidOut (by kernel_rfl) (of_decide_eq_true (by kernel_rfl)) k0 bel lt0) (trodAll_cons_mk (shut_string Tryz.underlying9 w1) trodAll_mk0)), rfl, bel.frame _, fun h => by cases h⟩
theorem over : Rows.fnExactKeysWithPrefixRow.holds Tryz.pinned (OpenSpec.ofChange Rows.fnExactKeysWithPrefixSpec) :=
  OpenClaim.holds_of_wide 12 Tryz.f12 rfl rfl rfl rfl rfl rfl rfl ⟨rfl, rfl, rfl, rfl, rfl⟩ rfl rfl rfl rfl rfl (by kernel_rfl) Tryz.func12 closed
    (of_decide_eq_true (by kernel_rfl)) (by unfold Func.isWrapper; first | (rw [if_pos (by decide +kernel)]; kernel_rfl) | (rw [if_neg (by decide +kernel)]; exact ⟨rfl, rfl⟩))
    (fun os started H enc _ => lifted os started H enc)
theorem proved : Rows.FnExactKeysWithPrefixSaid := over
#print axioms proved
end Go.Proofs.YtiklnoodcgippaaGreat.fnExactKeysWithPrefix
namespace Go.Proofs.YtiklnoodcgippaaGreat
/-- The row, under a short name, for the claim. -/
theorem fnExactKeysWithPrefix_holds : Rows.FnExactKeysWithPrefixSaid := fnExactKeysWithPrefix.proved
end Go.Proofs.YtiklnoodcgippaaGreat
