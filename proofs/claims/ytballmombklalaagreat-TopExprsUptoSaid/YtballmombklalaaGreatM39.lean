/- What the bound on the bulk of what is read gives. Began as the page's text on it. -/
import Derived.Test.YtballmombklalaaGreatRows
import Derived.Test.YtballmombklalaaGreatM29
import Derived.Test.YtballmombklalaaGreatM16
import Derived.Deep.Slices
import Derived.Deep.Fields
import Derived.ChangeSame
namespace Go.Proofs.YtballmombklalaaGreat.bulks

theorem one_le {H : Type} (d : DataW H) : 1 ≤ Rows.uptoBulk d := by
  cases d with
  | lit l => cases l <;> simp [Rows.uptoBulk]
  | nil => simp [Rows.uptoBulk]
  | ptr d => simp [Rows.uptoBulk]
  | slice elems spare => simp [Rows.uptoBulk]
  | agg parts => simp [Rows.uptoBulk]
  | iface t d => simp [Rows.uptoBulk]
  | map entries => simp [Rows.uptoBulk]
  | held h => simp [Rows.uptoBulk]

/-- a part's bulk is at most the whole's -/
theorem part_le {H : Type} {d : DataW H} {l : List (DataW H)} (h : d ∈ l) : Rows.uptoBulk d ≤ Rows.uptoBulkAll l := by
  induction l with
  | nil => cases h
  | cons x r ih =>
    simp only [Rows.uptoBulkAll]
    cases List.mem_cons.1 h with
    | inl e => subst e; omega
    | inr e => have := ih e; omega

theorem append {H : Type} (l r : List (DataW H)) : Rows.uptoBulkAll (l ++ r) = Rows.uptoBulkAll l + Rows.uptoBulkAll r := by
  induction l with
  | nil => simp [Rows.uptoBulkAll]
  | cons x l ih => simp only [List.cons_append, Rows.uptoBulkAll, ih]; omega

/-- so many values at the most -/
theorem length_le {H : Type} (l : List (DataW H)) : l.length ≤ Rows.uptoBulkAll l := by
  induction l with
  | nil => simp [Rows.uptoBulkAll]
  | cons x r ih => have := one_le x; simp only [Rows.uptoBulkAll, List.length_cons]; omega

/-- a slice's places, and what they hold -/
theorem slice_le {H : Type} (elems spare : List (DataW H)) : elems.length + spare.length + 1 ≤ Rows.uptoBulk (.slice elems spare) := by
  have h1 := length_le elems
  have h2 := length_le spare
  simp only [Rows.uptoBulk]
  omega
theorem slice_elems {H : Type} (elems spare : List (DataW H)) : Rows.uptoBulkAll elems + 1 ≤ Rows.uptoBulk (.slice elems spare) := by
  simp only [Rows.uptoBulk]
  omega

/-- a string's letters -/
theorem string_eq {H : Type} (bytes : List UInt8) : Rows.uptoBulk (DataW.lit (H := H) (.string bytes)) = bytes.length + 1 := by
  simp [Rows.uptoBulk]

/-- THE BOUND, as the builder hands it over ('hk') -/
theorem bound {H : Type} {l : List (DataW H)} (hk : Rows.uptoSmall H l = true) : Rows.uptoBulkAll l ≤ 1048576 := by
  simpa [Rows.uptoSmall] using hk

/-- ROOM: a slice of n elements of b bytes, grown by append: below the 2^48 bytes that append, make and a Builder bear. Here n up to 2^21, b up to 4,096: put your own numbers. -/
theorem room {n b : Nat} (hn : n ≤ 2097152) (hb : b ≤ 4096) : (n + n / 4 + 192) * b ≤ 281474976710656 := by
  have h : (n + n / 4 + 192) * b ≤ 2621632 * 4096 := Nat.mul_le_mul (by omega) hb
  omega

end Go.Proofs.YtballmombklalaaGreat.bulks

/- Arguments that are slices of structs: what the cells hold. -/
namespace Go.Proofs.YtballmombklalaaGreat
open Go.ChangeShapes Go.WideShapes Go.Deep Go.RowKit

section
variable {H : Type} {enc : TypeId × Value → H} {P : Program} {w : World} {base : Nat} {spare : Nat → Bool} {held : Bool}
theorem open_fields {t e : TypeId} {fs : Array Field} {fuel : Nat} {cs : List Value} {x : DataW H × List MemPlace} (ht : P.underlying t = some (.slice e)) (he : P.underlying e = some (.struct fs))
    (hone : oneCellFields P fs = true) (hC : P.cellsOf e = fs.size) (h : DataW.trod enc P w base spare held fuel t cs = some x) :
    (cs = [.slice none 0 0] ∧ x = (.nil, [])) ∨
    ∃ (a : Addr) (len cap m : Nat) (D : Nat → DataW H) (Pl : Nat → List MemPlace), cs = [.slice (some a) len cap] ∧ base ≤ a.block ∧ len ≤ cap ∧ cap ≤ maxLen ∧ m = (if spare a.block then cap else len) ∧
      x = (.slice ((List.range len).map D) ((List.range (m - len)).map fun j => D (len + j)), MemPlace.row a (m * fs.size) ++ (List.range m).flatMap Pl) ∧
      ∀ i, i < m → ∃ (ys : List (DataW H × List MemPlace)) (n : Nat), D i = .agg (ys.map (·.1)) ∧ Pl i = ys.flatMap (·.2) ∧ ys.length = fs.size ∧
        ∀ (j : Nat) (f : Field), fs[j]? = some f → ∃ (v : Value) (y : DataW H × List MemPlace), w.cell? (a.add (i * fs.size + j)) = some v ∧ ys[j]? = some y ∧ DataW.trod enc P w base spare held n f.type [v] = some y := by
  rcases open_slice ht h with h0 | ⟨a, len, cap, m, n, D, Pl, hcs, hb, hl, hm, hmm, hx, hi⟩
  · exact .inl h0
  · refine .inr ⟨a, len, cap, m, D, Pl, hcs, hb, hl, hm, hmm, by rw [hC] at hx; exact hx, fun i him => ?_⟩
    obtain ⟨cs', hc, ht'⟩ := hi i him
    rw [hC] at hc
    obtain ⟨ys, n', hn', hy, hlen, hyl, hf⟩ := DataW.trod_struct he ht'
    obtain ⟨_, hcl, hat⟩ := World.cells?_some hc
    simp only [Prod.mk.injEq] at hy
    refine ⟨ys, n', hy.1, hy.2, hyl, fun j f hj => ?_⟩
    obtain ⟨ho, hk⟩ := hone_of hone j f hj
    have hjl : j < fs.size := (Array.getElem?_eq_some_iff.1 hj).1
    have hcell := hat j hjl
    have hv : cs'[j]? = some (cs'[j]'(by omega)) := List.getElem?_eq_getElem (by omega)
    have h1 := hf j f hj
    rw [ho, hk] at h1
    have hone' : (cs'.drop j).take 1 = [cs'[j]'(by omega)] := by
      rw [List.drop_eq_getElem_cons (by omega)]
      rfl
    rw [hone'] at h1
    have hys : ys[j]? = some (ys[j]'(by omega)) := List.getElem?_eq_getElem (by omega)
    refine ⟨_, _, ?_, hys, h1.trans hys⟩
    rw [← Go.Deep.add_add, hcell, hv]
end

theorem list_of {α : Type} {Q : Nat → α → Prop} : ∀ (n : Nat), (∀ i, i < n → ∃ x, Q i x) → ∃ L : List α, L.length = n ∧ ∀ (i : Nat) (x : α), L[i]? = some x → Q i x
  | 0, _ => ⟨[], rfl, fun i x hi => by cases hi⟩
  | n + 1, h => by
    obtain ⟨L, hl, hL⟩ := list_of n (fun i hi => h i (by omega))
    obtain ⟨x, hx⟩ := h n (by omega)
    refine ⟨L ++ [x], by rw [List.length_append, hl]; rfl, fun i y hi => ?_⟩
    rcases Nat.lt_or_ge i n with q | q
    · rw [List.getElem?_append_left (by omega)] at hi
      exact hL i y hi
    · have hin : i < (L ++ [x]).length := (List.getElem?_eq_some_iff.1 hi).1
      rw [List.length_append, hl] at hin
      simp only [List.length_cons, List.length_nil] at hin
      have : i = n := by omega
      subst this
      rw [List.getElem?_append_right (by omega), hl, Nat.sub_self] at hi
      injection hi with hi
      subst hi
      exact hx
theorem add_plain0 (b off i : Nat) : (⟨b, off, none⟩ : Addr).add i = ⟨b, off + i, none⟩ := by unfold Addr.add; split <;> simp_all
theorem spot_none {W : World} {a : Addr} {k : Nat} {v : Value} (h : W.cell? (a.add (0 * k)) = some v) : ∃ b off, a = ⟨b, off, none⟩ := by
  obtain ⟨b, off, spot⟩ := a
  have : spot = none := by
    have := World.cell?_spot h
    unfold Addr.add at this
    simpa using this
  subst this
  exact ⟨b, off, rfl⟩
theorem i64_wf {n : Int} (h : (Lit.int .i64 n).wf = true) : I64 n := by
  have e1 : IntKind.min .i64 = -9223372036854775808 := by decide
  have e2 : IntKind.max .i64 = 9223372036854775807 := by decide
  unfold I64
  simp [Lit.wf, e1, e2] at h
  omega
theorem zero_get {α : Type} {L : List α} {i : Nat} {c : α} (h : L[i]? = some c) : ∃ c0, L[0]? = some c0 := by
  have := (List.getElem?_eq_some_iff.1 h).1
  exact ⟨_, List.getElem?_eq_getElem (by omega)⟩

variable {H : Type} {enc : TypeId × Value → H} {W : World} {held : Bool}
theorem schema_open {fuel : Nat} {a : Option Addr} {len cap : Nat} {x : DataW H × List MemPlace} (h : DataW.trod enc Tryz.prog W 0 (fun _ => true) held fuel 23 [.slice a len cap] = some x) :
    ∃ S : List Cl, S.length = len ∧ len ≤ maxLen ∧ Src encC 2 W (fun _ => False) a S := by
  rcases open_fields Tryz.underlying23 Tryz.underlying93 (by kernel_rfl) (by kernel_rfl) h with ⟨hcs, _⟩ | ⟨ad, len', cap', m, D, Pl, hcs, _, hl, hm, hmm, hx, hi⟩
  · injection hcs with hcs
    injection hcs with h1 h2 h3
    subst h1 h2 h3
    exact ⟨[], rfl, Nat.zero_le _, Src.nil⟩
  · injection hcs with hcs
    injection hcs with h1 h2 h3
    subst h1 h2 h3
    simp only [if_true] at hmm
    subst hmm
    obtain ⟨L, hL, hQ⟩ := list_of (α := Cl) (Q := fun i c => W.cell? (ad.add (i * 2)) = some (.string ⟨⟨c.n⟩⟩) ∧ W.cell? (ad.add (i * 2 + 1)) = some (.int .i64 c.k)) len (fun i hil => by
      obtain ⟨ys, n, _, _, _, hf⟩ := hi i (by omega)
      obtain ⟨v0, y0, c0, _, t0⟩ := hf 0 _ rfl
      obtain ⟨v1, y1, c1, _, t1⟩ := hf 1 _ rfl
      obtain ⟨s, e0, _, _⟩ := DataW.trod_string Tryz.underlying9 t0
      obtain ⟨k, e1, _, _⟩ := DataW.trod_int Tryz.underlying50 t1
      injection e0 with e0
      injection e1 with e1
      subst e0 e1
      exact ⟨⟨s.data.toList, k⟩, c0, c1⟩)
    refine ⟨L, hL, by omega, fun i c hc => ?_⟩
    obtain ⟨c0, c1⟩ := hQ i c hc
    obtain ⟨z, hz⟩ := zero_get hc
    obtain ⟨b, off, rfl⟩ := spot_none (hQ 0 z hz).1
    rw [add_plain0] at c0 c1
    refine ⟨b, off, rfl, fun q => q, fun j u hu => ?_⟩
    match j, hu with
    | 0, hu => injection hu with hu; subst hu; exact c0
    | 1, hu => injection hu with hu; subst hu; rw [Nat.add_assoc]; exact c1
theorem row_open {fuel : Nat} {a : Option Addr} {len cap : Nat} {x : DataW H × List MemPlace} (h : DataW.trod enc Tryz.prog W 0 (fun _ => true) held fuel 56 [.slice a len cap] = some x) :
    ∃ R : List Wd, R.length = len ∧ (a = none → R = [] ∧ cap = 0) ∧ Src encW 3 W (fun _ => False) a R ∧ (∀ v ∈ R, I64 v.n) ∧ R.length ≤ Rows.uptoBulk x.1 := by
  rcases open_fields Tryz.underlying56 Tryz.underlying52 (by kernel_rfl) (by kernel_rfl) h with ⟨hcs, _⟩ | ⟨ad, len', cap', m, D, Pl, hcs, _, hl, hm, hmm, hx, hi⟩
  · injection hcs with hcs
    injection hcs with h1 h2 h3
    subst h1 h2 h3
    exact ⟨[], rfl, fun _ => ⟨rfl, rfl⟩, Src.nil, (fun v hv => by cases hv), Nat.zero_le _⟩
  · injection hcs with hcs
    injection hcs with h1 h2 h3
    subst h1 h2 h3
    simp only [if_true] at hmm
    subst hmm
    obtain ⟨L, hL, hQ⟩ := list_of (α := Wd) (Q := fun i c => (W.cell? (ad.add (i * 3)) = some (.int .i64 c.c) ∧ W.cell? (ad.add (i * 3 + 1)) = some (.int .i64 c.n) ∧ W.cell? (ad.add (i * 3 + 2)) = some (.string ⟨⟨c.t⟩⟩)) ∧ I64 c.n) len (fun i hil => by
      obtain ⟨ys, n, _, _, _, hf⟩ := hi i (by omega)
      obtain ⟨v0, y0, c0, _, t0⟩ := hf 0 _ rfl
      obtain ⟨v1, y1, c1, _, t1⟩ := hf 1 _ rfl
      obtain ⟨v2, y2, c2, _, t2⟩ := hf 2 _ rfl
      obtain ⟨k, e0, _, _⟩ := DataW.trod_int Tryz.underlying50 t0
      obtain ⟨n1, e1, _, hw⟩ := DataW.trod_int Tryz.underlying3 t1
      obtain ⟨s, e2, _, _⟩ := DataW.trod_string Tryz.underlying9 t2
      injection e0 with e0
      injection e1 with e1
      injection e2 with e2
      subst e0 e1 e2
      exact ⟨⟨k, n1, s.data.toList⟩, ⟨c0, c1, c2⟩, i64_wf hw⟩)
    refine ⟨L, hL, (fun q => by cases q), fun i c hc => ?_, fun v hv => ?_, ?_⟩
    · obtain ⟨⟨c0, c1, c2⟩, _⟩ := hQ i c hc
      obtain ⟨z, hz⟩ := zero_get hc
      obtain ⟨b, off, rfl⟩ := spot_none (hQ 0 z hz).1.1
      rw [add_plain0] at c0 c1 c2
      refine ⟨b, off, rfl, fun q => q, fun j u hu => ?_⟩
      match j, hu with
      | 0, hu => injection hu with hu; subst hu; exact c0
      | 1, hu => injection hu with hu; subst hu; rw [Nat.add_assoc]; exact c1
      | 2, hu => injection hu with hu; subst hu; rw [Nat.add_assoc]; exact c2
    · obtain ⟨i, hi, rfl⟩ := List.getElem_of_mem hv
      exact (hQ i _ (List.getElem?_eq_getElem hi)).2
    · rw [hx]
      have := bulks.slice_le ((List.range len).map D) ((List.range (m - len)).map fun j => D (len + j))
      rw [List.length_map, List.length_range] at this
      simp only
      omega
theorem edges_open {fuel : Nat} {a : Option Addr} {len cap : Nat} {x : DataW H × List MemPlace} (h : DataW.trod enc Tryz.prog W 0 (fun _ => true) held fuel 24 [.slice a len cap] = some x) (hb : Rows.uptoBulk x.1 ≤ 1048576) :
    ∃ L : List Ed, L.length = len ∧ len ≤ 1048576 ∧ EdS W (fun _ => False) a L ∧ (∀ y ∈ L, ∀ v ∈ y.r, I64 v.n) := by
  rcases open_fields Tryz.underlying24 Tryz.underlying84 (by kernel_rfl) (by kernel_rfl) h with ⟨hcs, _⟩ | ⟨ad, len', cap', m, D, Pl, hcs, _, hl, hm, hmm, hx, hi⟩
  · injection hcs with hcs
    injection hcs with h1 h2 h3
    subst h1 h2 h3
    exact ⟨[], rfl, Nat.zero_le _, (fun i x hi => by cases hi), (fun v hv => by cases hv)⟩
  · injection hcs with hcs
    injection hcs with h1 h2 h3
    subst h1 h2 h3
    simp only [if_true] at hmm
    subst hmm
    have hbl := bulks.slice_le ((List.range len).map D) ((List.range (m - len)).map fun j => D (len + j))
    have hbe := bulks.slice_elems ((List.range len).map D) ((List.range (m - len)).map fun j => D (len + j))
    rw [List.length_map, List.length_range] at hbl
    rw [hx] at hb
    simp only at hb
    obtain ⟨L, hL, hQ⟩ := list_of (α := Ed) (Q := fun i c => (∃ B d, W.cell? (ad.add (i * 3)) = some (.slice B c.r.length d) ∧ W.cell? (ad.add (i * 3 + 1)) = some (.int .i64 c.a) ∧ W.cell? (ad.add (i * 3 + 2)) = some (.int .i64 c.n) ∧ (B = none → c.r = [] ∧ d = 0) ∧ Src encW 3 W (fun _ => False) B c.r ∧ c.r.length ≤ 1048576) ∧ ∀ v ∈ c.r, I64 v.n) len (fun i hil => by
      obtain ⟨ys, n, hD, _, _, hf⟩ := hi i (by omega)
      obtain ⟨v0, y0, c0, hy0, t0⟩ := hf 0 _ rfl
      obtain ⟨v1, y1, c1, _, t1⟩ := hf 1 _ rfl
      obtain ⟨v2, y2, c2, _, t2⟩ := hf 2 _ rfl
      obtain ⟨n1, e1, _, _⟩ := DataW.trod_int Tryz.underlying3 t1
      obtain ⟨n2, e2, _, _⟩ := DataW.trod_int Tryz.underlying3 t2
      injection e1 with e1
      injection e2 with e2
      subst e1 e2
      have hsl : ∃ B l d, v0 = .slice B l d := by
        rcases open_slice Tryz.underlying56 t0 with ⟨q, _⟩ | ⟨b2, l2, d2, _, _, _, _, q, _⟩
        · injection q with q; exact ⟨_, _, _, q⟩
        · injection q with q; exact ⟨_, _, _, q⟩
      obtain ⟨B, l, d, rfl⟩ := hsl
      obtain ⟨R, hR, hRn, hRs, hRi, hRb⟩ := row_open t0
      subst hR
      have h1 : Rows.uptoBulk y0.1 ≤ Rows.uptoBulkAll (ys.map (·.1)) := bulks.part_le (List.mem_map_of_mem (List.mem_of_getElem? hy0))
      have h2 : Rows.uptoBulkAll (ys.map (·.1)) ≤ Rows.uptoBulk (D i) := by rw [hD]; simp only [Rows.uptoBulk]; omega
      have h3 : Rows.uptoBulk (D i) ≤ Rows.uptoBulkAll ((List.range len).map D) := bulks.part_le (List.mem_map_of_mem (List.mem_range.2 hil))
      exact ⟨⟨R, n1, n2⟩, ⟨B, d, c0, c1, c2, hRn, hRs, by simp only; omega⟩, hRi⟩)
    refine ⟨L, hL, by omega, fun i c hc => ?_, fun v hv => ?_⟩
    · obtain ⟨⟨B, d, c0, c1, c2, h4, h5, h6⟩, _⟩ := hQ i c hc
      obtain ⟨z, hz⟩ := zero_get hc
      obtain ⟨⟨_, _, z0, _⟩, _⟩ := hQ 0 z hz
      obtain ⟨b, off, rfl⟩ := spot_none z0
      rw [add_plain0] at c0 c1 c2
      exact ⟨b, off, B, d, rfl, fun q => q, c0, by rw [Nat.add_assoc]; exact c1, by rw [Nat.add_assoc]; exact c2, h4, h5, h6⟩
    · obtain ⟨i, hi, rfl⟩ := List.getElem_of_mem hv
      exact (hQ i _ (List.getElem?_eq_getElem hi)).2
end Go.Proofs.YtballmombklalaaGreat
