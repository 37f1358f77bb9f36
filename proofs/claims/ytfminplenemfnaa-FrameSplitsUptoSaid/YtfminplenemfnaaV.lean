/- Frames that are alike. -/
import Derived.Test.YtfminplenemfnaaU
namespace Go.Proofs.Ytfminplenemfnaa
open Go.RowKit

/-- The frames at A read as fs. -/
def FC (w : World) (A : Option Addr) (fs : List (List Int × Int)) : Prop :=
  ∀ i f, fs[i]? = some f → ∃ g x, A = some ⟨g, 0, none⟩ ∧ w.cell? ⟨g, i * 2, none⟩ = some x ∧ w.cell? ⟨g, i * 2 + 1, none⟩ = some (.int .i64 f.2) ∧ ∃ N, FrOK w N x f.1
theorem FR.fc {w : World} {v : Value} {vs : List (Value × Int)} {fs : List (List Int × Int)} {N : Nat → Prop} (h : FR w v vs) (hf : Fits w N vs fs) : ∃ A c, v = .slice A fs.length c ∧ fs.length ≤ c ∧ FC w A fs := by
  by_cases hn : vs = []
  · subst hn
    have h0 : fs = [] := List.eq_nil_of_length_eq_zero (by rw [← hf.1]; rfl)
    subst h0
    obtain ⟨a, c, rfl⟩ := h.shape
    exact ⟨a, c, rfl, Nat.zero_le _, fun i f hi => by cases hi⟩
  · obtain ⟨g, cap, rfl, hc, hcell⟩ := h.cells hn
    refine ⟨_, cap, by rw [hf.1], by rw [← hf.1]; exact hc, fun i f hi => ?_⟩
    have hlt : i < vs.length := by rw [hf.1]; exact (List.getElem?_eq_some_iff.1 hi).1
    have hp : vs[i]? = some vs[i] := List.getElem?_eq_getElem hlt
    obtain ⟨e1, e2⟩ := hcell i _ hp
    obtain ⟨e3, e4⟩ := hf.2 i _ f hp hi
    exact ⟨g, _, rfl, e1, by rw [← e3]; exact e2, N, e4⟩
theorem FQ.fc {w : World} {v : Value} {vs : List (Value × Int)} {fs : List (List Int × Int)} {N : Nat → Prop} (h : FQ w v vs) (hf : Fits w N vs fs) : ∃ A c, v = .slice A fs.length c ∧ fs.length ≤ c ∧ FC w A fs := by
  by_cases hn : vs = []
  · subst hn
    have h0 : fs = [] := List.eq_nil_of_length_eq_zero (by rw [← hf.1]; rfl)
    subst h0
    obtain ⟨a, c, rfl⟩ := h.shape
    exact ⟨a, c, rfl, Nat.zero_le _, fun i f hi => by cases hi⟩
  · obtain ⟨g, cap, rfl, hc, hcell⟩ := h.cells hn
    refine ⟨_, cap, by rw [hf.1], by rw [← hf.1]; exact hc, fun i f hi => ?_⟩
    have hlt : i < vs.length := by rw [hf.1]; exact (List.getElem?_eq_some_iff.1 hi).1
    have hp : vs[i]? = some vs[i] := List.getElem?_eq_getElem hlt
    obtain ⟨e1, e2⟩ := hcell i _ hp
    obtain ⟨e3, e4⟩ := hf.2 i _ f hp hi
    exact ⟨g, _, rfl, e1, by rw [← e3]; exact e2, N, e4⟩

theorem conv_FrN {w : World} {N : Nat → Prop} {v : Value} {l : List Int} (h : FrOK w N v l) (n : Nat) : (convert 22 9 v).run Try.prog (w.drewN n) = .ok (.string (strOfNums l)) (w.drewN n) := conv_Fr (w := w.drewN n) h

set_option maxHeartbeats 2000000 in
theorem alike_fc (w : World) (A B : Option Addr) (c c' : Nat) (fs : List (List Int × Int)) (hA : FC w A fs) (hB : FC w B fs) (hm : fs.length ≤ 9223372036854775807) :
    Calls Try.prog 13 #[.slice A fs.length c, .slice B fs.length c'] w fun e w' => e = .returned (.bool true) ∧ ∃ n, w' = w.drewN n := by
  go_enter Try.func13, Try.ntmps13
  go_wp2
  go_loopw [5] (fun i wr => ∃ k n : Nat, k ≤ fs.length ∧ i = .int .i64 k ∧ wr = w.drewN n) (fun i _ => fs.length - (intOf i).toNat)
  case atStart => exact ⟨0, 0, Nat.zero_le _, rfl, rfl⟩
  case round =>
    obtain ⟨k, n, hk, rfl, rfl⟩ := hrel
    by_cases hlt : k < fs.length
    · obtain ⟨f, hf⟩ : ∃ f, fs[k]? = some f := ⟨fs[k], List.getElem?_eq_getElem hlt⟩
      obtain ⟨g, x, rfl, x0, x1, N, hx⟩ := hA k f hf
      obtain ⟨g', y, rfl, y0, y1, N', hy⟩ := hB k f hf
      have hcx := conv_FrN (w := w) hx
      have hcy := conv_FrN (w := w) hy
      clear hx hy hf hA hB
      go_wp2
      go_quiet (fail)
      go_wp2
      go_roundw
      case rel => exact ⟨k + 1, n + nq, by omega, by go_num, rfl⟩
      case measure => simp [intOf]; omega
    · go_wp2
      go_ret
      exact ⟨rfl, n, rfl⟩

theorem alike_any (w : World) (v u : Value) (vs us : List (Value × Int)) (fs : List (List Int × Int)) (N N' : Nat → Prop) (h : FR w v vs) (hf : Fits w N vs fs) (k : FQ w u us) (kf : Fits w N' us fs) (hm : fs.length ≤ 9223372036854775807) :
    Calls Try.prog 13 #[v, u] w fun e w' => e = .returned (.bool true) ∧ ∃ n, w' = w.drewN n := by
  obtain ⟨A, c, rfl, _, hA⟩ := h.fc hf
  obtain ⟨B, c', rfl, _, hB⟩ := k.fc kf
  exact alike_fc w A B c c' fs hA hB hm

end Go.Proofs.Ytfminplenemfnaa
