/- The plain law of what is counted at each place. -/
import Derived.Test.YthkeigljiinlbaaGreatM30
import Derived.Test.YthkeigljiinlbaaGreatM33
import Derived.Shelf.SortM.Plain
namespace Go.Proofs.YthkeigljiinlbaaGreat
open Go.RowKit

def cntE (L : List Ed) (t : Int) : Int := sumTo (L.map Ed.j) t
def nextC : List Int → Int
  | [] => 1125899906842624
  | b :: _ => b
def numW (n : Int) : List Wd := [⟨1, n, []⟩]
theorem numW_one (n : Int) : One (numW n) := ⟨n, rfl⟩
theorem numW_inj {a b : Int} (h : numW a = numW b) : a = b := by
  unfold numW at h
  injection h with h
  injection h
/-- What is told at the cuts C. -/
def ansL (c : Int → Int) : List Int → List Ed
  | [] => []
  | a :: C => (if 0 < c a then [⟨numW (c a), a, 1⟩, ⟨numW (c a), nextC C, -1⟩] else []) ++ ansL c C
/-- Between two cuts there is no change. -/
def Steps (c : Int → Int) : List Int → Prop
  | [] => True
  | a :: C => (∀ t, a ≤ t → t < nextC C → c t = c a) ∧ Steps c C
theorem ansL_low (c : Int → Int) (r : List Wd) (t : Int) (ht : t < 1125899906842624) : ∀ C : List Int, (∀ a ∈ C, t < a) → valE (ansL c C) r t = 0
  | [], _ => rfl
  | a :: C, h => by
    have ha := h a (List.mem_cons_self ..)
    have hC : ∀ b ∈ C, t < b := fun b hb => h b (List.mem_cons_of_mem _ hb)
    have hn : t < nextC C := by
      cases C with
      | nil => exact ht
      | cons b C => exact hC b (List.mem_cons_self ..)
    have h0 : valE [] r t = 0 := rfl
    rw [ansL, valE_app, ansL_low c r t ht C hC]
    by_cases hp : 0 < c a
    · rw [if_pos hp, valE_cons, valE_cons, h0, if_neg (by rintro ⟨_, q⟩; simp only at q; omega), if_neg (by rintro ⟨_, q⟩; simp only at q; omega)]
      rfl
    · rw [if_neg hp, h0]
      rfl
theorem ansL_val (c : Int → Int) (r : List Wd) (t : Int) (ht : t < 1125899906842624) : ∀ (C : List Int) (a : Int), (a :: C).Pairwise (· < ·) → Steps c (a :: C) → a ≤ t →
    valE (ansL c (a :: C)) r t = if 0 < c t ∧ r = numW (c t) then 1 else 0
  | C, a, hp, hs, ha => by
    have h0 : valE [] r t = 0 := rfl
    rw [ansL, valE_app]
    by_cases hn : t < nextC C
    · have hlow : ∀ b ∈ C, t < b := by
        cases C with
        | nil => intro b hb; cases hb
        | cons d C =>
          intro b hb
          rcases List.mem_cons.1 hb with rfl | hb
          · exact hn
          · have := (List.pairwise_cons.1 (List.pairwise_cons.1 hp).2).1 b hb
            simp only [nextC] at hn
            omega
      rw [ansL_low c r t ht C hlow, hs.1 t ha hn]
      by_cases hpos : 0 < c a
      · rw [if_pos hpos, valE_cons, valE_cons, h0]
        have e2 : ¬ (numW (c a) = r ∧ nextC C ≤ t) := by rintro ⟨_, q⟩; omega
        simp only [if_neg e2]
        by_cases hr : r = numW (c a)
        · rw [if_pos ⟨hr.symm, ha⟩, if_pos ⟨hpos, hr⟩]; rfl
        · rw [if_neg (fun q => hr q.1.symm), if_neg (fun q => hr q.2)]; rfl
      · rw [if_neg hpos, h0, if_neg (fun q => hpos q.1)]; rfl
    · cases C with
      | nil => exact absurd ht hn
      | cons b C =>
        simp only [nextC] at hn
        have ih := ansL_val c r t ht C b (List.pairwise_cons.1 hp).2 hs.2 (by omega)
        rw [ih]
        have hz : valE (if 0 < c a then [⟨numW (c a), a, 1⟩, ⟨numW (c a), nextC (b :: C), -1⟩] else []) r t = 0 := by
          by_cases hpos : 0 < c a
          · have hnx : nextC (b :: C) ≤ t := by simp only [nextC]; omega
            rw [if_pos hpos, valE_cons, valE_cons, h0]
            by_cases hr : numW (c a) = r
            · rw [if_pos ⟨hr, ha⟩, if_pos ⟨hr, hnx⟩]; rfl
            · rw [if_neg (fun q => hr q.1), if_neg (fun q => hr q.1)]; rfl
          · rw [if_neg hpos, h0]
        rw [hz, Int.zero_add]
  termination_by C => C.length

theorem sumTo_same : ∀ (f : List Jp) (s t : Int), (∀ x ∈ f, x.a ≤ s ↔ x.a ≤ t) → sumTo f s = sumTo f t
  | [], _, _, _ => rfl
  | x :: f, s, t, h => by
    rw [sumTo_cons, sumTo_cons, sumTo_same f s t (fun y hy => h y (List.mem_cons_of_mem _ hy))]
    by_cases hx : x.a ≤ s
    · rw [if_pos hx, if_pos ((h x (List.mem_cons_self ..)).1 hx)]
    · rw [if_neg hx, if_neg (fun q => hx ((h x (List.mem_cons_self ..)).2 q))]
theorem cntE_same (L : List Ed) (s t : Int) (hst : s ≤ t) (h : ∀ x ∈ L, ¬ (s < x.a ∧ x.a ≤ t)) : cntE L t = cntE L s := by
  unfold cntE
  refine (sumTo_same _ s t (fun y hy => ?_)).symm
  obtain ⟨x, hx, rfl⟩ := List.mem_map.1 hy
  have := h x hx
  unfold Ed.j
  simp only
  omega

/-- The cuts of L. -/
structure CutsL (L : List Ed) (C : List Int) : Prop where
  rise : C.Pairwise (· < ·)
  mem : ∀ a, a ∈ C ↔ a = 0 ∨ ∃ x ∈ L, x.a = a ∧ 0 < a
  len : C.length ≤ L.length + 1
theorem steps_of (c : Int → Int) : ∀ (C : List Int), C.Pairwise (· < ·) → (∀ s ∈ C, ∀ t, s ≤ t → t < 1125899906842624 → (∀ b ∈ C, ¬ (s < b ∧ b ≤ t)) → c t = c s) → (∀ b ∈ C, b ≤ 1125899906842624) → Steps c C
  | [], _, _, _ => trivial
  | a :: C, hp, h, hb => by
    rw [List.pairwise_cons] at hp
    refine ⟨fun t ha hn => h a (List.mem_cons_self ..) t ha ?_ (fun b hbm => ?_), steps_of c C hp.2 (fun s hs t hst ht hno => h s (List.mem_cons_of_mem _ hs) t hst ht (fun b hbm => ?_)) (fun b hbm => hb b (List.mem_cons_of_mem _ hbm))⟩
    · cases C with
      | nil => exact hn
      | cons d C =>
        have := hb d (by simp)
        simp only [nextC] at hn
        omega
    · rcases List.mem_cons.1 hbm with rfl | hbm
      · omega
      · have : nextC C ≤ b := by
          cases C with
          | nil => cases hbm
          | cons d C =>
            simp only [nextC]
            rcases List.mem_cons.1 hbm with rfl | hbm
            · omega
            · have := (List.pairwise_cons.1 hp.2).1 b hbm
              omega
        omega
    · rcases List.mem_cons.1 hbm with rfl | hbm
      · have := hp.1 s hs
        omega
      · exact hno b hbm
/-- The law: what is told at the cuts of L. -/
theorem cuts_law {L : List Ed} {C : List Int} (h : CutsL L C) (hL : ∀ x ∈ L, x.a ≤ 1125899906842624) (r : List Wd) (t : Int) (ht : t < 1125899906842624) :
    valE (ansL (cntE L) C) r t = if 0 ≤ t ∧ 0 < cntE L t ∧ r = numW (cntE L t) then 1 else 0 := by
  have hge : ∀ b ∈ C, 0 ≤ b := fun b hb => by
    rcases (h.mem b).1 hb with q | ⟨_, _, _, q⟩ <;> omega
  have h0 : (0 : Int) ∈ C := (h.mem 0).2 (.inl rfl)
  have hlt : ∀ b ∈ C, b ≤ 1125899906842624 := fun b hb => by
    rcases (h.mem b).1 hb with q | ⟨x, hx, e, _⟩
    · omega
    · rw [← e]; exact hL x hx
  by_cases hp : 0 ≤ t
  · cases C with
    | nil => cases h0
    | cons a C =>
      have ha : a = 0 := by
        rcases List.mem_cons.1 h0 with q | q
        · exact q.symm
        · have := (List.pairwise_cons.1 h.rise).1 0 q
          have := hge a (List.mem_cons_self ..)
          omega
      subst ha
      rw [ansL_val (cntE L) r t ht C 0 h.rise (steps_of _ _ h.rise (fun s hs u hsu hu hno => cntE_same L s u hsu (fun x hx q => ?_)) hlt) hp]
      · by_cases hc : 0 < cntE L t ∧ r = numW (cntE L t)
        · rw [if_pos hc, if_pos ⟨hp, hc⟩]
        · rw [if_neg hc, if_neg (fun q => hc q.2)]
      · have := hge s hs
        exact hno x.a ((h.mem x.a).2 (.inr ⟨x, hx, rfl, by omega⟩)) q
  · rw [ansL_low _ r t ht C (fun b hb => by have := hge b hb; omega), if_neg (fun q => hp q.1)]
theorem ansL_len (c : Int → Int) : ∀ C : List Int, (ansL c C).length ≤ 2 * C.length
  | [] => Nat.le_refl _
  | a :: C => by
    have := ansL_len c C
    rw [ansL, List.length_append, List.length_cons]
    by_cases h : 0 < c a
    · rw [if_pos h]; simp only [List.length_cons, List.length_nil]; omega
    · rw [if_neg h]; simp only [List.length_nil]; omega
theorem ansL_mem (c : Int → Int) : ∀ (C : List Int), (∀ a ∈ C, 0 ≤ a ∧ a ≤ 1125899906842624) → ∀ x ∈ ansL c C, OkN x ∧ ∃ a ∈ C, x.r = numW (c a)
  | [], _, x, hx => by cases hx
  | a :: C, h, x, hx => by
    have hC : ∀ b ∈ C, 0 ≤ b ∧ b ≤ 1125899906842624 := fun b hb => h b (List.mem_cons_of_mem _ hb)
    have ha := h a (List.mem_cons_self ..)
    have hn : 0 ≤ nextC C ∧ nextC C ≤ 1125899906842624 := by
      cases C with
      | nil => exact ⟨by decide, by decide⟩
      | cons b C => exact hC b (List.mem_cons_self ..)
    rw [ansL, List.mem_append] at hx
    rcases hx with hx | hx
    · by_cases hp : 0 < c a
      · rw [if_pos hp] at hx
        simp only [List.mem_cons, List.not_mem_nil, or_false] at hx
        rcases hx with rfl | rfl
        · exact ⟨⟨numW_one _, ⟨by simp only; omega, by simp only; omega⟩, by simp only; omega, by simp only; omega⟩, a, List.mem_cons_self .., rfl⟩
        · exact ⟨⟨numW_one _, ⟨by simp only; omega, by simp only; omega⟩, by simp only; omega, by simp only; omega⟩, a, List.mem_cons_self .., rfl⟩
      · rw [if_neg hp] at hx; cases hx
    · obtain ⟨h1, b, hb, e⟩ := ansL_mem c C hC x hx
      exact ⟨h1, b, List.mem_cons_of_mem _ hb, e⟩

theorem eachB_mem2 : ∀ (gs : List (List Wd × List Jp)) (last : Option (List Wd)), eachB gs last = true → ∀ p ∈ gs, rowB p.1 = true ∧ stepMayB p.2 = true
  | [], _, _, p, hp => by cases hp
  | q :: gs, last, h, p, hp => by
    rw [eachB] at h
    by_cases hc : (rowB q.1 && (riseB last q.1 && stepMayB q.2)) = true
    · rw [if_pos hc] at h
      simp only [Bool.and_eq_true] at hc
      rcases List.mem_cons.1 hp with rfl | hp
      · exact ⟨hc.1, hc.2.2⟩
      · exact eachB_mem2 gs _ h p hp
    · rw [if_neg hc] at h; cases h
theorem eachTB_mem2 : ∀ (gs : List (List Wd × List Jp)) (last : Option (List Wd)), eachTB gs last = true → ∀ p ∈ gs, tabB p.2 = true
  | [], _, _, p, hp => by cases hp
  | q :: gs, last, h, p, hp => by
    rw [eachTB] at h
    by_cases hc : (rowB q.1 && (riseB last q.1 && tabB q.2)) = true
    · rw [if_pos hc] at h
      simp only [Bool.and_eq_true] at hc
      rcases List.mem_cons.1 hp with rfl | hp
      · exact hc.2.2
      · exact eachTB_mem2 gs _ h p hp
    · rw [if_neg hc] at h; cases h
theorem edMay_run {L : List Ed} (h : edMay L = true) : L.length ≤ 4096 ∧ ∀ p ∈ runsL L, rowB p.1 = true ∧ stepMayB p.2 = true := by
  unfold edMay at h
  simp only [Bool.and_eq_true, decide_eq_true_eq] at h
  exact ⟨h.1, eachB_mem2 _ _ h.2⟩
theorem edTab_run {L : List Ed} (h : edTab L = true) : ∀ p ∈ runsL L, tabB p.2 = true := by
  unfold edTab at h
  simp only [Bool.and_eq_true, decide_eq_true_eq] at h
  exact eachTB_mem2 _ _ h.2
theorem run_of {L : List Ed} {x : Ed} (hx : x ∈ L) : ∃ p ∈ runsL L, p.1 = x.r ∧ x.j ∈ p.2 := by
  rw [← runs_flat L, List.mem_flatMap] at hx
  obtain ⟨p, hp, hx⟩ := hx
  unfold putL at hx
  obtain ⟨j, hj, rfl⟩ := List.mem_map.1 hx
  exact ⟨p, hp, rfl, hj⟩
theorem edMay_ed {L : List Ed} (h : edMay L = true) {x : Ed} (hx : x ∈ L) : -2 < x.a ∧ x.a < 1125899906842624 ∧ x.n ≠ 0 ∧ -1048576 ≤ x.n ∧ x.n ≤ 1048576 := by
  obtain ⟨p, hp, _, hj⟩ := run_of hx
  exact (may_all ((edMay_run h).2 p hp).2).2.2 _ hj
/-- The sum over the runs. -/
def sumR (gs : List (List Wd × List Jp)) (t : Int) : Int := (gs.map (fun p => sumTo p.2 t)).sum
theorem cntE_app (L M : List Ed) (t : Int) : cntE (L ++ M) t = cntE L t + cntE M t := by
  unfold cntE; rw [List.map_append, sumTo_app]
theorem cntE_put (r : List Wd) (f : List Jp) (t : Int) : cntE (putL r f) t = sumTo f t := by
  unfold cntE putL
  rw [List.map_map]
  congr 1
  conv => rhs; rw [← List.map_id f]
  rfl
theorem cntE_flat (t : Int) : ∀ gs : List (List Wd × List Jp), cntE (gs.flatMap (fun p => putL p.1 p.2)) t = sumR gs t
  | [] => rfl
  | p :: gs => by
    rw [List.flatMap_cons, cntE_app, cntE_put, cntE_flat t gs]
    rfl
theorem cntE_runs (L : List Ed) (t : Int) : cntE L t = sumR (runsL L) t := by
  rw [← cntE_flat, runs_flat]
theorem pres_sum : ∀ (f : List Jp) (v : Int), 0 ≤ v → presB f v = true → f.Pairwise (fun x y => x.a < y.a) → ∀ t, 0 ≤ v + sumTo f t
  | [], v, hv, _, _, t => by rw [sumTo_nil]; omega
  | x :: f, v, hv, h, hp, t => by
    rw [presB, Bool.and_eq_true, decide_eq_true_eq] at h
    rw [List.pairwise_cons] at hp
    rw [sumTo_cons]
    by_cases hx : x.a ≤ t
    · rw [if_pos hx]
      have := pres_sum f (v + x.n) h.1 h.2 hp.2 t
      omega
    · rw [if_neg hx]
      have : sumTo f t = 0 := by
        have hh : ∀ y ∈ f, ¬ y.a ≤ t := fun y hy => by have := hp.1 y hy; omega
        clear h hp
        induction f with
        | nil => rfl
        | cons y f ih =>
          rw [sumTo_cons, if_neg (hh y (List.mem_cons_self ..)), ih (fun z hz => hh z (List.mem_cons_of_mem _ hz))]
          rfl
      omega
theorem tab_sum {f : List Jp} (h : tabB f = true) (t : Int) : 0 ≤ sumTo f t := by
  unfold tabB at h
  rw [Bool.and_eq_true] at h
  have := pres_sum f 0 (Int.le_refl _) h.2 (may_all h.1).2.1 t
  omega
/-- Who is there at t, and how often. -/
def thereL (gs : List (List Wd × List Jp)) (t : Int) : List (List Wd × Int) := (gs.filter (fun p => decide (0 < sumTo p.2 t))).map (fun p => (p.1, sumTo p.2 t))
def totL (l : List (List Wd × Int)) : Int := (l.map Prod.snd).sum
theorem there_tot (t : Int) : ∀ gs : List (List Wd × List Jp), (∀ p ∈ gs, tabB p.2 = true) → totL (thereL gs t) = sumR gs t
  | [], _ => rfl
  | p :: gs, h => by
    have ih := there_tot t gs (fun q hq => h q (List.mem_cons_of_mem _ hq))
    have hp := tab_sum (h p (List.mem_cons_self ..)) t
    unfold thereL totL sumR at ih ⊢
    conv => rhs; rw [List.map_cons, List.sum_cons]
    by_cases hc : 0 < sumTo p.2 t
    · rw [List.filter_cons_of_pos (by simpa using hc), List.map_cons, List.map_cons, List.sum_cons, ih]
    · rw [List.filter_cons_of_neg (by simpa using hc), ih]
      omega
theorem there_pos (gs : List (List Wd × List Jp)) (t : Int) : ∀ p ∈ thereL gs t, 0 < p.2 := by
  intro p hp
  unfold thereL at hp
  obtain ⟨q, hq, rfl⟩ := List.mem_map.1 hp
  simpa using (List.mem_filter.1 hq).2
theorem tot_zero : ∀ l : List (List Wd × Int), (∀ p ∈ l, 0 < p.2) → (l = [] ↔ totL l = 0) ∧ 0 ≤ totL l
  | [], _ => ⟨⟨fun _ => rfl, fun _ => rfl⟩, Int.le_refl _⟩
  | p :: l, h => by
    have hp := h p (List.mem_cons_self ..)
    have ih := (tot_zero l (fun q hq => h q (List.mem_cons_of_mem _ hq))).2
    unfold totL at ih ⊢
    rw [List.map_cons, List.sum_cons]
    exact ⟨⟨fun q => (by cases q), fun q => (by omega)⟩, (by omega)⟩
end Go.Proofs.YthkeigljiinlbaaGreat

/- slices.Sort at whole numbers, by the shelf. -/
namespace Go.Proofs.YthkeigljiinlbaaGreat
open Go.RowKit Go.Shelf

theorem bears_of {P : Program} {f : FuncId} {B F : Func} (h : P.funcs[f]? = some F) (hn : (F.name == "runtime.NumGoroutine") = false) (e : F = { B with name := F.name }) : Bears P f B := ⟨F.name, hn, by rw [h, ← e]⟩
theorem same_of {P : Program} {f : FuncId} {B F : Func} (h : P.funcs[f]? = some F) (e : F = B) : P.funcs[f]? = some B := by rw [h, e]
def sortRen : Ren where
  f := fun x => match x with
    | 5 => 123
    | 8 => 77
    | 7 => 148
    | 19 => 116
    | 20 => 117
    | 10 => 163
    | 11 => 164
    | 12 => 165
    | 13 => 166
    | 14 => 167
    | 15 => 168
    | 16 => 151
    | 17 => 169
    | 18 => 170
    | 30 => 175
    | 31 => 139
    | 32 => 140
    | 33 => 176
    | 34 => 177
    | 35 => 91
    | 40 => 179
    | n => n
  t := fun x => match x with
    | 23 => 56
    | 25 => 3
    | 3 => 3
    | 32 => 141
    | 22 => 56
    | 0 => 0
    | 44 => 183
    | 46 => 185
    | 4 => 4
    | 36 => 176
    | 35 => 175
    | 41 => 180
    | 5 => 5
    | 9 => 9
    | 53 => 223
    | 57 => 227
    | 63 => 265
    | 64 => 266
    | n => n
  g := fun x => x
theorem sortLay : SlLaysM.n5 Tryz.prog sortRen where
  mixed := rfl
  f5 := bears_of Tryz.func123 (by kernel_rfl) rfl
  f7 := bears_of Tryz.func148 (by kernel_rfl) rfl
  f8 := same_of Tryz.func77 rfl
  f10 := bears_of Tryz.func163 (by kernel_rfl) rfl
  f11 := bears_of Tryz.func164 (by kernel_rfl) rfl
  f12 := bears_of Tryz.func165 (by kernel_rfl) rfl
  f13 := bears_of Tryz.func166 (by kernel_rfl) rfl
  f14 := bears_of Tryz.func167 (by kernel_rfl) rfl
  f15 := bears_of Tryz.func168 (by kernel_rfl) rfl
  f16 := bears_of Tryz.func151 (by kernel_rfl) rfl
  f17 := bears_of Tryz.func169 (by kernel_rfl) rfl
  f18 := bears_of Tryz.func170 (by kernel_rfl) rfl
  f19 := same_of Tryz.func116 rfl
  f20 := same_of Tryz.func117 rfl
  f30 := bears_of Tryz.func175 (by kernel_rfl) rfl
  f31 := same_of Tryz.func139 rfl
  f32 := same_of Tryz.func140 rfl
  f33 := bears_of Tryz.func176 (by kernel_rfl) rfl
  f34 := bears_of Tryz.func177 (by kernel_rfl) rfl
  f35 := bears_of Tryz.func91 (by kernel_rfl) rfl
  f40 := bears_of Tryz.func179 (by kernel_rfl) rfl
  t0 := Tryz.underlying0
  a0 := Tryz.isAgg0
  z0 := Tryz.sizeOf0
  v0 := Tryz.zeroValue0
  t3 := Tryz.underlying3
  a3 := Tryz.isAgg3
  z3 := Tryz.sizeOf3
  v3 := Tryz.zeroValue3
  t4 := Tryz.underlying4
  a4 := Tryz.isAgg4
  z4 := Tryz.sizeOf4
  v4 := Tryz.zeroValue4
  t5 := Tryz.underlying5
  a5 := Tryz.isAgg5
  z5 := Tryz.sizeOf5
  v5 := Tryz.zeroValue5
  t9 := Tryz.underlying9
  a9 := Tryz.isAgg9
  z9 := Tryz.sizeOf9
  v9 := Tryz.zeroValue9
  t22 := Tryz.underlying56
  a22 := Tryz.isAgg56
  z22 := Tryz.sizeOf56
  v22 := Tryz.zeroValue56
  t23 := Tryz.underlying56
  a23 := Tryz.isAgg56
  z23 := Tryz.sizeOf56
  v23 := Tryz.zeroValue56
  t25 := Tryz.underlying3
  a25 := Tryz.isAgg3
  z25 := Tryz.sizeOf3
  v25 := Tryz.zeroValue3
  t32 := Tryz.underlying141
  a32 := Tryz.isAgg141
  z32 := Tryz.sizeOf141
  v32 := Tryz.zeroValue141
  t35 := Tryz.underlying175
  a35 := Tryz.isAgg175
  z35 := Tryz.sizeOf175
  v35 := Tryz.zeroValue175
  t36 := Tryz.underlying176
  a36 := Tryz.isAgg176
  z36 := Tryz.sizeOf176
  v36 := Tryz.zeroValue176
  t41 := Tryz.underlying180
  a41 := Tryz.isAgg180
  z41 := Tryz.sizeOf180
  v41 := Tryz.zeroValue180
  t44 := Tryz.underlying183
  a44 := Tryz.isAgg183
  z44 := Tryz.sizeOf183
  v44 := Tryz.zeroValue183
  t46 := Tryz.underlying185
  a46 := Tryz.isAgg185
  z46 := Tryz.sizeOf185
  v46 := Tryz.zeroValue185
  t53 := Tryz.underlying223
  a53 := Tryz.isAgg223
  z53 := Tryz.sizeOf223
  v53 := Tryz.zeroValue223
  t57 := Tryz.underlying227
  a57 := Tryz.isAgg227
  z57 := Tryz.sizeOf227
  v57 := Tryz.zeroValue227
  t63 := Tryz.underlying265
  a63 := Tryz.isAgg265
  z63 := Tryz.sizeOf265
  v63 := Tryz.zeroValue265
  t64 := Tryz.underlying266
  a64 := Tryz.isAgg266
  z64 := Tryz.sizeOf266
  v64 := Tryz.zeroValue266

def encZ (n : Int) : List Value := [.int .i64 n]
theorem encZ_len (x : Int) : (encZ x).length = 1 := rfl
theorem encZ_one : ∀ x, ∀ u ∈ encZ x, u.oneCell' = true := by simp [encZ, Value.oneCell']
theorem cells_z : ∀ M : List Int, cellsOf encZ M = M.map (Value.int .i64)
  | [] => rfl
  | x :: M => by
    have := cells_z M
    unfold cellsOf encZ at this ⊢
    rw [List.flatMap_cons, List.map_cons, this]
    rfl
theorem putCells_take (enc : Int → Value) (d : Array Int) (cur : Array Value) (h : d.size ≤ cur.size) : (Sort.putCells enc 0 d cur).toList.take d.size = d.toList.map enc := by
  apply List.ext_getElem?
  intro k
  rw [List.getElem?_take, List.getElem?_map]
  by_cases hk : k < d.size
  · rw [if_pos hk, Array.getElem?_toList, Sort.putCells, Array.getElem?_mapIdx, Array.getElem?_eq_getElem (show k < cur.size by omega), Option.map_some, if_pos ⟨Nat.zero_le _, by omega⟩, Array.getElem?_toList, Array.getElem?_eq_getElem hk, Option.map_some, Nat.sub_zero, getElem!_pos d k hk]
  · rw [if_neg hk, List.getElem?_eq_none (by simpa using hk)]
    rfl
theorem grow_heap (w : World) (os : Array Obj) (k : Nat) (hk : k < w.heap.size) : (Sort.grow w os).heap[k]? = w.heap[k]? := by
  unfold Sort.grow
  simp only
  rw [Array.getElem?_append_left hk]

/-- slices.Sort of whole numbers. -/
theorem sortI_any {w0 w : World} {v : Value} {M : List Int} (h : New encZ 1 3 w0 w v M) (hne : M ≠ []) (hl : M.length ≤ 1000000) :
    Calls Tryz.prog 123 #[v] w fun e w' => (∃ u, e = .returned u) ∧ New encZ 1 3 w0 w' v (M.mergeSort fun x y => decide (x ≤ y)) := by
  obtain ⟨h1, h2⟩ := h.row
  rcases h2 with ⟨rfl, hn⟩ | ⟨g, cap, cur, rfl, _, hg, hnc, hcm, hcs, htk⟩
  · exact absurd (List.eq_nil_of_length_eq_zero hn) hne
  rw [cells_z, Nat.mul_one] at htk
  rw [Nat.mul_one] at hcs
  have hgl := (Array.getElem?_eq_some_iff.1 hg).1
  have hH : Sort.Holds (Value.int .i64) w g 0 M.toArray := by
    intro j hj
    have hj' : j < M.length := by simpa using hj
    refine ⟨?_, frozen_of hg _⟩
    have c := cell_of_row w g j _ _ _ hg
    rw [Nat.zero_add, c]
    have e1 : (cur.toList.take M.length)[j]? = (M.map (Value.int .i64))[j]? := by rw [htk]
    rw [List.getElem?_take, if_pos hj', Array.getElem?_toList, List.getElem?_map, List.getElem?_eq_getElem hj', Option.map_some] at e1
    rw [e1, getElem!_pos M.toArray j hj]
    rfl
  have hc := AnyM.slices_Sort_int sortLay g 0 cap M w hH hgl (by omega)
  refine Calls.mono hc ?_
  rintro e w' ⟨rfl, n, os, rfl⟩
  obtain ⟨d, hd⟩ : ∃ d, (M.mergeSort fun x y => decide (x ≤ y)) = d := ⟨_, rfl⟩
  have hdl : d.length = M.length := by rw [← hd, List.length_mergeSort]
  rw [hd]
  have hsz : (Sort.putRow (Value.int .i64) (Sort.ahead w n) g 0 d.toArray).heap.size = w.heap.size := by rw [Sort.size_putRow]; rfl
  have hat : (Sort.grow (Sort.putRow (Value.int .i64) (Sort.ahead w n) g 0 d.toArray) os).heap[g]? = some (.cells (Sort.putCells (Value.int .i64) 0 d.toArray cur) 3 (0, 0)) := by
    rw [grow_heap _ _ _ (by rw [hsz]; exact hgl)]
    unfold Sort.putRow Sort.mapBlock
    simp only [Sort.heap_ahead, Array.getElem?_modify, if_true, hg, Option.map_some, Sort.onCells]
  have kk : Kept (fun j => j = g) w (Sort.grow (Sort.putRow (Value.int .i64) (Sort.ahead w n) g 0 d.toArray) os) := by
    refine ⟨rfl, rfl, rfl, by rw [Sort.size_grow, hsz]; omega, fun k hk hkn => ?_⟩
    rw [grow_heap _ _ _ (by rw [hsz]; exact hk)]
    unfold Sort.putRow Sort.mapBlock
    simp only [Sort.heap_ahead, Array.getElem?_modify]
    rw [if_neg (fun q => hkn q.symm)]
  refine ⟨⟨_, rfl⟩, ⟨⟨by rw [cells_z, List.length_map, Nat.mul_one], .inr ⟨g, cap, _, by rw [hdl], Nat.zero_le _, hat, by rw [hdl]; exact hnc, hcm, ?_, ?_⟩⟩, h.own, h.kept.trans' kk (fun _ _ q => q) (fun j hj q => ?_)⟩⟩
  · rw [Nat.mul_one, Sort.putCells, Array.size_mapIdx]; exact hcs
  · rw [cells_z, Nat.mul_one]
    have := putCells_take (Value.int .i64) d.toArray cur (by simp; omega)
    simpa using this
  · subst q
    have := h.own j rfl
    omega
end Go.Proofs.YthkeigljiinlbaaGreat
