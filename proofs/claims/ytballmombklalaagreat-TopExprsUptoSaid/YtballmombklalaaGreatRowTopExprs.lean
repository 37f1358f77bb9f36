/- TopExprs: an expression is one thing, as a text, as words and as bytes: for every text, schema and list of edges of bulk at most 1048576 the law's function returns true, and each argument reads as it did. The condition is the given row's own, the bulk. -/
import Derived.Test.YtballmombklalaaGreatRows
import Derived.Test.YtballmombklalaaGreatM38
import Derived.Test.YtballmombklalaaGreatM39
import Derived.JoinedCond
import Derived.WalkKit
import Derived.ProofKit
import Derived.OpenShut
import Derived.ChangeOld
import Derived.ChangeSlices
import Derived.Lib.SmallJoins
namespace Go.Proofs.YtballmombklalaaGreat.topExprs
open Go.ChangeShapes Go.WideShapes Go.ChangeAt Go.RowKit Go.Joins

theorem own : ownKnob Tryz.prog.godebug = none := by kernel_rfl
theorem laidOut : laidOutB Tryz.prog = true := by kernel_rfl

set_option maxRecDepth 100000 in
theorem contract (H : Type) (enc : TypeId × Value → H) (W : World) (base : Nat) (args : Array Value) (ds gs : List (DataW H)) (before : List MemPlace)
    (hval : ∀ (j : Nat) t v, Tryz.f3.params[j]? = some t → args[j]? = some v → Value.okWide Tryz.prog W .any base t v)
    (hW : DataW.Whole enc Tryz.prog Tryz.f3.params.toList Rows.topExprsSpec.vars false W args.toList ds gs before) (hk : Rows.uptoSmall H (ds ++ gs) = true) :
    Calls Tryz.prog 3 args W fun e W' => ∃ v, e = .returned v ∧ Rows.topExprsSpec.post enc Tryz.prog Tryz.f3 false true false false W args v W' := by
  have hW' := hW
  obtain ⟨p, q, hA0, hV, rfl, hfz, hnd⟩ := hW
  have hA : DataW.TrodAll enc Tryz.prog W 0 (fun _ => true) true Tryz.f3.params.toList args.toList ds p := hA0
  rw [Tryz.params3] at hA hval
  obtain ⟨v0, vs0, d0, ds0, p0, q0, hargs, rfl, rfl, h0, r0⟩ := trodAll_cons hA
  obtain ⟨v1, vs1, d1, ds1, p1, q1, rfl, rfl, rfl, h1, r1⟩ := trodAll_cons r0
  obtain ⟨v2, vs2, d2, ds2, p2, q2, rfl, rfl, rfl, h2, r2⟩ := trodAll_cons r1
  obtain ⟨rfl, rfl, rfl⟩ := trodAll_nil r2
  obtain rfl : args = #[v0, v1, v2] := Array.ext' hargs
  obtain ⟨rfl, rfl⟩ := trodVars_none hV
  obtain ⟨s0, rfl⟩ := okWide_string Tryz.underlying9 (hval 0 9 v0 rfl rfl)
  obtain ⟨a1, len1, cap1, rfl⟩ := okWide_slice Tryz.underlying23 (hval 1 23 v1 rfl rfl)
  obtain ⟨a2, len2, cap2, rfl⟩ := okWide_slice Tryz.underlying24 (hval 2 24 v2 rfl rfl)
  have k0 := h0
  have k1 := h1
  have k2 := h2
  have lt0 : ∀ x ∈ p0, x.block < W.heap.size := by obtain ⟨m, hm⟩ := k0; exact DataW.trod_lt m _ _ _ hm
  have lt1 : ∀ x ∈ p1, x.block < W.heap.size := by obtain ⟨m, hm⟩ := k1; exact DataW.trod_lt m _ _ _ hm
  have lt2 : ∀ x ∈ p2, x.block < W.heap.size := by obtain ⟨m, hm⟩ := k2; exact DataW.trod_lt m _ _ _ hm
  have hbulk : Rows.uptoBulk d0 ≤ 1048576 ∧ Rows.uptoBulk d2 ≤ 1048576 := by
    have h := bulks.bound hk
    simp only [List.cons_append, List.nil_append, Rows.uptoBulkAll] at h
    omega
  obtain ⟨s, rfl, hsl⟩ : ∃ s : List UInt8, s0 = ⟨⟨s⟩⟩ ∧ s.length ≤ 1048576 := by
    obtain ⟨fuel, hf⟩ := h0
    obtain ⟨s1, e, hx, _⟩ := DataW.trod_string Tryz.underlying9 (by simpa [Value.cells] using hf)
    simp at e
    subst e
    refine ⟨s0.data.toList, rfl, ?_⟩
    have := hbulk.1
    simp only [Prod.mk.injEq] at hx
    rw [hx.1, bulks.string_eq] at this
    omega
  obtain ⟨S, hS, hSl, hSs⟩ : ∃ S : List Cl, S.length = len1 ∧ len1 ≤ maxLen ∧ Src encC 2 W (fun _ => False) a1 S := by
    obtain ⟨fuel, hf⟩ := h1
    exact schema_open (by simpa [Value.cells] using hf)
  obtain ⟨L, hL, hLl, hLs, hLn⟩ : ∃ L : List Ed, L.length = len2 ∧ len2 ≤ 1048576 ∧ EdS W (fun _ => False) a2 L ∧ (∀ y ∈ L, ∀ v ∈ y.r, I64 v.n) := by
    obtain ⟨fuel, hf⟩ := h2
    exact edges_open (by simpa [Value.cells] using hf) hbulk.2
  subst hS hL
  clear hA0
  refine (top_any s S L a2 a1 cap2 cap1 W hSs hSl hsl hLs hLl hLn).mono fun e W' ⟨he, kp⟩ => ?_
  subst he
  have bel : Below W.heap.size W W' := kp.below (Nat.le_refl _) (fun _ _ h => h)
  have old := fun {t v d p} (k : DataW.Trod enc Tryz.prog W 0 (fun _ => true) true t v d p) (lt : ∀ x ∈ p, x.block < W.heap.size) (hh) (hh2) => Below.trod laidOut hh hh2 k bel lt
  exact ⟨_, rfl, _, _, _, [], _, [], hW', trodAll_mk1 (shut_bool Tryz.underlying4 _),
    (trodAll_cons_mk (Below.trod laidOut (by kernel_rfl) (of_decide_eq_true (by kernel_rfl)) k0 bel lt0) (trodAll_cons_mk (Below.trod laidOut (by kernel_rfl) (of_decide_eq_true (by kernel_rfl)) k1 bel lt1) (trodAll_cons_mk (Below.trod laidOut (by kernel_rfl) (of_decide_eq_true (by kernel_rfl)) k2 bel lt2) trodAll_mk0))), rfl, bel.frame _, fun h => by cases h⟩

set_option maxRecDepth 100000 in
theorem lifted (os : Os) (started : os.Started) (H : Type) (enc : TypeId × Value → H) (F : Stop.Interp) :
    ReturnsInHanded {} Tryz.checked os 3 .any ((Rows.OpenSpec.upto Rows.topExprsSpec).pre6 enc Tryz.prog Tryz.f3 Rows.topExprsUptoRow.domain false) (((Rows.OpenSpec.upto Rows.topExprsSpec).at F).post enc Tryz.prog Tryz.f3 false true false false) := by
  refine returnsInHanded_of_cond (C := Tryz.checked) (s := Rows.OpenSpec.upto Rows.topExprsSpec) (k := Rows.uptoSmall) rfl own started (by kernel_rfl) Tryz.func3
    (OpenSpec.witness (enc := enc) (C := Tryz.checked) (s := Rows.OpenSpec.upto Rows.topExprsSpec) (k := Rows.uptoSmall) rfl false ⟨#[], #[.string ⟨#[]⟩, .slice none 0 0, .slice none 0 0], []⟩ 8 (by kernel_rfl) (by kernel_rfl) (by kernel_rfl)
      (x := ([.lit (.string []), .nil, .nil], [], [])) (by kernel_rfl) rfl (by kernel_rfl)) ?_
  intro W base args ds gs before hval hW _ hk _
  exact contract H enc W base args ds gs before hval hW hk

theorem over : Rows.TopExprsUptoSaid :=
  OpenClaim.holds_of_cond 3 Tryz.f3 rfl rfl rfl rfl rfl rfl rfl ⟨rfl, rfl, rfl, rfl, rfl⟩ rfl rfl rfl rfl rfl (by kernel_rfl) Tryz.func3 (by kernel_rfl)
    (of_decide_eq_true (by kernel_rfl)) (by unfold Func.isWrapper; first | (rw [if_pos (by decide +kernel)]; kernel_rfl) | (rw [if_neg (by decide +kernel)]; exact ⟨rfl, rfl⟩))
    (fun os started H enc _ F => lifted os started H enc F)

end Go.Proofs.YtballmombklalaaGreat.topExprs
namespace Go.Proofs.YtballmombklalaaGreat
theorem topExprs_holds : Rows.TopExprsUptoSaid := topExprs.over
#print axioms topExprs_holds
end Go.Proofs.YtballmombklalaaGreat
