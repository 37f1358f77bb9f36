/- edge.Norm. -/
import Derived.Test.YthkeigljiinlbaaGreatM27
namespace Go.Proofs.YthkeigljiinlbaaGreat
open Go.RowKit

def keyD (x : Ed) : Int := (x.r.headD ⟨0, 0, []⟩).n * 4503599627370496 + x.a

set_option maxHeartbeats 1000000 in
set_option maxRecDepth 100000 in
theorem edgeNorm_any (M : List PE) (v : Value) (w0 w : World) (h : EdN w0 w v M) (hl : M.length ≤ 1000) (hok : ∀ p ∈ M, OkN p.2) :
    Calls Tryz.prog 16 #[v] w fun e w' => ∃ v' M' Rs Z, e = .returned (.tuple #[v', .int .i64 0]) ∧ EdN w w' v' M' ∧ M'.map Prod.snd = flatR Rs ∧ MapR (runsL Z) Rs ∧ Z.Perm (M.map Prod.snd) ∧ Srt keyD Z := by
  obtain ⟨A, c, hv, hA, hs⟩ := h.eds (fun p hp => by have := (hok p hp).1.len; omega)
  obtain ⟨A2, c2, hv2, hA2, hs2⟩ := h.row.asSrc encE_len
  have he : A2 = A ∧ c2 = c := by
    rw [hv] at hv2
    injection hv2 with h1 _ h3
    exact ⟨h1.symm, h3.symm⟩
  obtain ⟨rfl, rfl⟩ := he
  have hok2 : ∀ x ∈ M.map Prod.snd, OkN x := fun x hx => by
    obtain ⟨p, hp, rfl⟩ := List.mem_map.1 hx
    exact hok p hp
  have hml : (M.map Prod.snd).length = M.length := List.length_map ..
  have hc1 := fun wx (hx : EdS wx (fun _ => False) A2 (M.map Prod.snd)) => contE_any (M.map Prod.snd) A2 c2 wx 43 #[] (fun _ _ => false) (fun _ W => EdS W (fun _ => False) A2 (M.map Prod.snd) ∧ Kept (fun _ => False) wx W) (by rw [hml]; unfold maxLen; omega) (enters_of Tryz.func43 (by kernel_rfl) rfl) (fun _ _ q => q.1)
    (fun n x W B d q hx hB hsx hxl => (norm1E_any x B d W (hok2 x (List.mem_of_getElem? hx)) hsx).mono fun e W' r => ⟨r.1, q.1.same r.2, q.2.trans r.2⟩) ⟨hx, Kept.refl _ wx⟩
  have hc2 := fun wx (hx : EdS wx (fun _ => False) A2 (M.map Prod.snd)) => contE_any (M.map Prod.snd) A2 c2 wx 44 #[] (fun _ _ => false) (fun _ W => EdS W (fun _ => False) A2 (M.map Prod.snd) ∧ Kept (fun _ => False) wx W) (by rw [hml]; unfold maxLen; omega) (enters_of Tryz.func44 (by kernel_rfl) rfl) (fun _ _ q => q.1)
    (fun n x W B d q hx hB hsx hxl => (norm2E_any x B d W (hok2 x (List.mem_of_getElem? hx))).mono fun e W' r => ⟨r.1, q.1.same r.2, q.2.trans r.2⟩) ⟨hx, Kept.refl _ wx⟩
  rw [findI_no (fun i x hx => rfl)] at hc1 hc2
  rw [hml] at hc1 hc2
  have hcl := fun wx hx => cloneE_any M A2 c2 wx hA2 hx (by omega)
  have HE := Lib.hid h
  have HOK := Lib.hid hok
  subst hv
  clear hok hok2 hml h hv2
  go_enter Tryz.func16, Tryz.ntmps16
  go_wp2_with fail
  refine (hc1 _ hs).mono ?_
  rintro e w1 ⟨_, rfl, hs1, k1⟩
  go_wp2_with fail
  refine (hc2 _ hs1).mono ?_
  rintro e w2 ⟨_, rfl, hs2', k2⟩
  have k12 := k1.trans k2
  go_wp2_with fail
  refine (hcl _ (hs2.same k12)).mono ?_
  rintro e w3 ⟨v3, rfl, hn3⟩
  have k13 := k12.trans hn3.kept
  have hE3 : EdN w0 w3 v3 M := ⟨hn3.row, fun j hj => Nat.le_trans (HE.out.kept.trans k12).size (hn3.own j hj), fun p hp => ⟨(HE.out.rows p hp).1.same k13, (HE.out.rows p hp).2⟩, HE.out.kept.trans k13⟩
  have hso := sortE_any M v3 w0 w3 hE3 (by omega) HOK.out
  have HO3 := Lib.hid (show ∀ j, v3.ownBlock = some j → w.heap.size ≤ j from fun j hj => Nat.le_trans k12.size (hn3.own j hj))
  have K13 := Lib.hid k13
  clear hc1 hc2 hcl hs hs1 hs2 hs2' k1 k2 k12 hn3 hE3 hA hA2 k13
  go_wp2_with fail
  refine hso.mono ?_
  rintro e w4 ⟨rfl, Z, hp, hz, hE4, k4⟩
  have hkw : Kept (fun _ => False) w w4 := K13.out.trans' k4 (fun _ _ q => q) (fun j hj q => by have := HO3.out j q; omega)
  obtain ⟨A4, c4, hv4, hA4, hs4⟩ := hE4.eds (fun p hpm => by have := (HOK.out p (hp.mem_iff.1 hpm)).1.len; omega)
  subst hv4
  have hzl : Z.length = M.length := hp.length_eq
  have hmz : (Z.map Prod.snd).length = Z.length := List.length_map ..
  have hma := mapped_any (Z.map Prod.snd) A4 c4 w4 (by rw [hmz]; omega) hs4 (fun x hx => by
    obtain ⟨p, hpm, rfl⟩ := List.mem_map.1 hx
    exact HOK.out p (hp.mem_iff.1 hpm))
  rw [hmz] at hma
  have HP := Lib.hid (hp.map Prod.snd)
  have HZ := Lib.hid (show Srt keyD (Z.map Prod.snd) from by unfold Srt at hz ⊢; rw [List.pairwise_map]; exact hz)
  have HK := Lib.hid hkw
  clear hp hz hE4 k4 hkw hA4 hs4 hzl hmz hso
  go_wp2_with fail
  refine hma.mono ?_
  rintro e w5 ⟨v5, M5, Rs, rfl, hE5, hm5, hr5⟩
  go_wp2_with fail
  go_ret2
  exact ⟨v5, M5, Rs, Z.map Prod.snd, rfl, ⟨hE5.row, fun j hj => Nat.le_trans HK.out.size (hE5.own j hj), fun p hp => ⟨(hE5.rows p hp).1, fun j hj => Nat.le_trans HK.out.size ((hE5.rows p hp).2 j hj)⟩, HK.out.trans hE5.kept⟩, hm5, hr5, HP.out, HZ.out⟩
end Go.Proofs.YthkeigljiinlbaaGreat

/- edge.Norm, in plain lists. -/
namespace Go.Proofs.YthkeigljiinlbaaGreat
open Go.RowKit

/-- What edges come to for a row at a place. -/
def valE (X : List Ed) (r : List Wd) (t : Int) : Int := sumTo ((X.filter (fun x => x.r == r)).map Ed.j) t
theorem valE_app (X Y : List Ed) (r : List Wd) (t : Int) : valE (X ++ Y) r t = valE X r t + valE Y r t := by
  unfold valE
  rw [List.filter_append, List.map_append, sumTo_app]
theorem valE_perm {X Y : List Ed} (h : X.Perm Y) (r : List Wd) (t : Int) : valE X r t = valE Y r t :=
  sumTo_perm ((h.filter _).map _) t
theorem valE_cons (x : Ed) (X : List Ed) (r : List Wd) (t : Int) : valE (x :: X) r t = (if x.r = r ∧ x.a ≤ t then x.n else 0) + valE X r t := by
  unfold valE
  by_cases h : x.r = r
  · rw [List.filter_cons_of_pos (by simpa using h), List.map_cons, sumTo_cons]
    by_cases ht : x.a ≤ t <;> simp [Ed.j, h, ht]
  · rw [List.filter_cons_of_neg (by simpa using h)]
    simp [h]
theorem valE_put (q : List Wd) (f : List Jp) (r : List Wd) (t : Int) : valE (putL q f) r t = if q = r then sumTo f t else 0 := by
  by_cases h : q = r
  · rw [if_pos h]
    unfold valE
    have h1 : (putL q f).filter (fun x => x.r == r) = putL q f := by
      rw [List.filter_eq_self]
      intro x hx
      unfold putL at hx
      obtain ⟨j, _, rfl⟩ := List.mem_map.1 hx
      simpa using h
    have h2 : (putL q f).map Ed.j = f := by
      unfold putL
      rw [List.map_map]
      exact (List.map_congr_left (fun j _ => rfl)).trans (List.map_id f)
    rw [h1, h2]
  · rw [if_neg h]
    unfold valE
    have h1 : (putL q f).filter (fun x => x.r == r) = [] := by
      rw [List.filter_eq_nil_iff]
      intro x hx
      unfold putL at hx
      obtain ⟨j, _, rfl⟩ := List.mem_map.1 hx
      simpa using h
    rw [h1]
    rfl
theorem MapR.val {gs Rs : List (List Wd × List Jp)} (h : MapR gs Rs) (r : List Wd) (t : Int) (ht : t < 1125899906842624) : valE (flatR Rs) r t = valE (flatR gs) r t := by
  induction h with
  | nil => rfl
  | snoc _ e hn ih => rw [flatR_snoc, flatR_snoc, valE_app, valE_app, ih, valE_put, valE_put, e, hn.sum t ht]
theorem MapR.mem {gs Rs : List (List Wd × List Jp)} (h : MapR gs Rs) : ∀ q ∈ Rs, ∃ p ∈ gs, q.1 = p.1 ∧ NormI p.2 q.2 := by
  induction h with
  | nil => intro q hq; cases hq
  | snoc _ e hn ih =>
    intro q hq
    rcases List.mem_append.1 hq with hq | hq
    · obtain ⟨p, hp, h1⟩ := ih q hq
      exact ⟨p, List.mem_append_left _ hp, h1⟩
    · rw [List.mem_singleton] at hq
      subst hq
      exact ⟨_, List.mem_append_right _ (List.mem_singleton.2 rfl), e, hn⟩
theorem MapR.fst {gs Rs : List (List Wd × List Jp)} (h : MapR gs Rs) : Rs.map Prod.fst = gs.map Prod.fst := by
  induction h with
  | nil => rfl
  | snoc _ e hn ih => rw [List.map_append, List.map_append, ih]; simp [e]

def numR (r : List Wd) : Int := (r.headD ⟨0, 0, []⟩).n
theorem One.num {r : List Wd} (h : One r) : r = [⟨1, numR r, []⟩] := by
  obtain ⟨n, rfl⟩ := h
  rfl
theorem one_eq {r q : List Wd} (h : One r) (g : One q) (e : numR r = numR q) : r = q := by rw [h.num, g.num, e]
theorem dw_head {α : Type} (p : α → Bool) : ∀ (l : List α) (z : α) (m : List α), l.dropWhile p = z :: m → p z = false
  | [], z, m, h => by cases h
  | x :: l, z, m, h => by
    by_cases hp : p x = true
    · rw [List.dropWhile_cons_of_pos hp] at h
      exact dw_head p l z m h
    · rw [List.dropWhile_cons_of_neg hp] at h
      injection h with h1 _
      subst h1
      simpa using hp
theorem mem_dw {α : Type} (p : α → Bool) : ∀ (l : List α), ∀ y ∈ l.dropWhile p, y ∈ l := fun l y h => (List.dropWhile_sublist p).subset h
/-- The runs of what is in order rise. -/
theorem runsF_rise : ∀ (n : Nat) (Z : List Ed), Z.length ≤ n → (∀ x ∈ Z, OkN x) → Srt keyD Z → (runsF n Z).Pairwise (fun p q => numR p.1 < numR q.1)
  | 0, Z, h, _, _ => by simp [runsF]
  | n + 1, [], _, _, _ => by simp [runsF]
  | n + 1, x :: l, h, hok, hs => by
    have hd := dw_len (fun y : Ed => y.r == x.r) x l (by simp)
    simp only [List.length_cons] at h
    rw [runsF]
    have hsub := List.dropWhile_sublist (l := x :: l) (fun y : Ed => y.r == x.r)
    refine List.Pairwise.cons (fun q hq => ?_) (runsF_rise n _ (by omega) (fun y hy => hok y (hsub.subset hy)) (hs.sublist hsub))
    obtain ⟨⟨y, hy, e⟩, _⟩ := runsF_mem _ _ q hq
    simp only
    rw [e]
    have key : ∀ u ∈ (x :: l), ∀ z ∈ (x :: l), keyD u ≤ keyD z → numR u.r ≤ numR z.r := fun u hu z hz hk => by
      have h1 := (hok u hu).2.1
      have h2 := (hok z hz).2.1
      unfold keyD at hk
      unfold numR
      omega
    cases hdw : (x :: l).dropWhile (fun y : Ed => y.r == x.r) with
    | nil => rw [hdw] at hy; cases hy
    | cons z m =>
      have hz0 : z ∈ x :: l := hsub.subset (by rw [hdw]; exact List.mem_cons_self ..)
      have hzr : z.r ≠ x.r := by
        have := dw_head (fun y : Ed => y.r == x.r) _ _ _ hdw
        simpa using this
      have hxz : numR x.r ≤ numR z.r := key x (List.mem_cons_self ..) z hz0 (by
        rcases List.mem_cons.1 hz0 with e | e
        · rw [e]; exact Int.le_refl _
        · exact (List.pairwise_cons.1 hs).1 z e)
      have hne : numR x.r ≠ numR z.r := fun e => hzr (one_eq (hok z hz0).1 (hok x (List.mem_cons_self ..)).1 e.symm)
      have hzy : numR z.r ≤ numR y.r := by
        have hs2 := hs.sublist hsub
        rw [hdw] at hs2 hy
        rcases List.mem_cons.1 hy with e | hy'
        · rw [e]; exact Int.le_refl _
        · exact key z hz0 y (hsub.subset (by rw [hdw]; exact hy)) ((List.pairwise_cons.1 hs2).1 y hy')
      omega
theorem tw_put (r : List Wd) : ∀ (f : List Jp) (T : List Ed), (∀ y ∈ T, y.r ≠ r) → (putL r f ++ T).takeWhile (fun y : Ed => y.r == r) = putL r f ∧ (putL r f ++ T).dropWhile (fun y : Ed => y.r == r) = T
  | [], T, h => by
    show T.takeWhile _ = [] ∧ T.dropWhile _ = T
    cases T with
    | nil => exact ⟨rfl, rfl⟩
    | cons y T =>
      have : ¬ (y.r == r) = true := by simpa using h y (List.mem_cons_self ..)
      exact ⟨List.takeWhile_cons_of_neg this, List.dropWhile_cons_of_neg this⟩
  | j :: f, T, h => by
    obtain ⟨h1, h2⟩ := tw_put r f T h
    have e : putL r (j :: f) ++ T = ⟨r, j.a, j.n⟩ :: (putL r f ++ T) := rfl
    rw [e, List.takeWhile_cons_of_pos (by simp), List.dropWhile_cons_of_pos (by simp), h1, h2]
    exact ⟨rfl, rfl⟩
/-- The runs of what was put together. -/
theorem runs_flatR : ∀ (Rs : List (List Wd × List Jp)), Rs.Pairwise (fun p q => q.1 ≠ p.1) → runsL (flatR Rs) = Rs.filter (fun p => !p.2.isEmpty)
  | [], _ => rfl
  | p :: Rs, h => by
    rw [List.pairwise_cons] at h
    have ih := runs_flatR Rs h.2
    have hT : ∀ y ∈ flatR Rs, y.r ≠ p.1 := fun y hy => by
      unfold flatR at hy
      obtain ⟨q, hq, hy⟩ := List.mem_flatMap.1 hy
      unfold putL at hy
      obtain ⟨j, _, rfl⟩ := List.mem_map.1 hy
      exact h.1 q hq
    have e : flatR (p :: Rs) = putL p.1 p.2 ++ flatR Rs := rfl
    obtain ⟨r, f⟩ := p
    simp only at *
    cases f with
    | nil =>
      rw [List.filter_cons_of_neg (by simp), ← ih, e]
      rfl
    | cons j f =>
      rw [List.filter_cons_of_pos (by simp), ← ih, e]
      obtain ⟨h1, h2⟩ := tw_put r (j :: f) (flatR Rs) hT
      have e2 : putL r (j :: f) ++ flatR Rs = ⟨r, j.a, j.n⟩ :: (putL r f ++ flatR Rs) := rfl
      have e3 : (putL r (j :: f)).map Ed.j = j :: f := by
        unfold putL
        rw [List.map_map]
        exact (List.map_congr_left (fun j _ => rfl)).trans (List.map_id _)
      rw [e2] at h1 h2 ⊢
      rw [runs_cons]
      simp only at h1 h2 ⊢
      rw [h1, h2, e3]
theorem eachB_of : ∀ (gs : List (List Wd × List Jp)) (last : Option (List Wd)), (∀ p ∈ gs, One p.1 ∧ stepMayB p.2 = true) → gs.Pairwise (fun p q => numR p.1 < numR q.1) → (∀ q, last = some q → One q ∧ ∀ p ∈ gs, numR q < numR p.1) → eachB gs last = true
  | [], _, _, _, _ => rfl
  | p :: gs, last, h, hp, hl => by
    rw [List.pairwise_cons] at hp
    obtain ⟨h1, h2⟩ := h p (List.mem_cons_self ..)
    have h3 : riseB last p.1 = true := by
      cases last with
      | none => rfl
      | some q =>
        obtain ⟨hq, hq2⟩ := hl q rfl
        have := hq2 p (List.mem_cons_self ..)
        show decide (cmpR q p.1 < 0) = true
        rw [hq.num, h1.num, cmpR_one, decide_eq_true_eq]
        unfold Lib.compareInt
        rw [if_pos this]
        decide
    rw [eachB, if_pos (by rw [h1.may, h3, h2]; rfl)]
    exact eachB_of gs (some p.1) (fun q hq => h q (List.mem_cons_of_mem _ hq)) hp.2 (fun q hq => by injection hq with hq; subst hq; exact ⟨h1, hp.1⟩)

/-- What is true of edges put together. -/
theorem norm_law {Z L : List Ed} {Rs : List (List Wd × List Jp)} (hm : MapR (runsL Z) Rs) (hp : Z.Perm L) (hs : Srt keyD Z) (hl : L.length ≤ 1000) (hok : ∀ x ∈ L, OkN x) :
    edMay (flatR Rs) = true ∧ (∀ x ∈ flatR Rs, One x.r ∧ ∃ y ∈ L, y.r = x.r) ∧ (flatR Rs).length ≤ L.length ∧ ∀ r t, t < 1125899906842624 → valE (flatR Rs) r t = valE L r t := by
  have hokZ : ∀ x ∈ Z, OkN x := fun x hx => hok x (hp.mem_iff.1 hx)
  have hZ : flatR (runsL Z) = Z := runs_flat Z
  have hlen : (flatR Rs).length ≤ L.length := by
    have := hm.len
    rw [hZ, hp.length_eq] at this
    exact this
  have hrow : ∀ p ∈ runsL Z, ∃ y ∈ L, y.r = p.1 := fun p hpm => by
    obtain ⟨⟨y, hy, e⟩, _⟩ := runs_mem hpm
    exact ⟨y, hp.mem_iff.1 hy, e.symm⟩
  have hR : ∀ q ∈ Rs, One q.1 ∧ (∃ y ∈ L, y.r = q.1) ∧ stepMayB q.2 = true := fun q hq => by
    obtain ⟨p, hpm, e, hn⟩ := hm.mem q hq
    obtain ⟨y, hy, e2⟩ := hrow p hpm
    have hpl := (runs_mem hpm).2
    exact ⟨by rw [e, ← e2]; exact (hok y hy).1, ⟨y, hy, by rw [e, e2]⟩, hn.may (by rw [hp.length_eq] at hpl; omega)⟩
  have hrise : Rs.Pairwise (fun p q => numR p.1 < numR q.1) := by
    have h1 := runsF_rise Z.length Z (Nat.le_refl _) hokZ hs
    have h2 : (Rs.map Prod.fst).Pairwise (fun a b => numR a < numR b) := by
      rw [hm.fst, List.pairwise_map]
      exact h1
    rw [List.pairwise_map] at h2
    exact h2
  refine ⟨?_, ?_, hlen, fun r t ht => ?_⟩
  · unfold edMay
    rw [runs_flatR Rs (hrise.imp (fun {a b} q e => by rw [e] at q; omega)), eachB_of _ none (fun p hpm => ?_) (hrise.sublist List.filter_sublist) (fun q hq => by cases hq)]
    · simp only [Bool.and_true, decide_eq_true_eq]; omega
    · obtain ⟨h1, _, h3⟩ := hR p (List.mem_filter.1 hpm).1
      exact ⟨h1, h3⟩
  · intro x hx
    unfold flatR at hx
    obtain ⟨q, hq, hx⟩ := List.mem_flatMap.1 hx
    unfold putL at hx
    obtain ⟨j, _, rfl⟩ := List.mem_map.1 hx
    exact ⟨(hR q hq).1, (hR q hq).2.1⟩
  · rw [hm.val r t ht, hZ, valE_perm hp]
end Go.Proofs.YthkeigljiinlbaaGreat

/- step.Least, step.At. -/
namespace Go.Proofs.YthkeigljiinlbaaGreat
open Go.RowKit

/-- No sum on the way is below 0. -/
def presB : List Jp → Int → Bool
  | [], _ => true
  | x :: r, v => decide (0 ≤ v + x.n) && presB r (v + x.n)
def tabB (f : List Jp) : Bool := stepMayB f && presB f 0

theorem rises_all : ∀ (L : List Jp) (last : Int), risesF L last = true → L.Pairwise (fun x y => x.a < y.a) ∧ ∀ r ∈ L, last < r.a ∧ r.a < 1125899906842624 ∧ r.n ≠ 0 ∧ -1048576 ≤ r.n ∧ r.n ≤ 1048576
  | [], _, _ => ⟨List.Pairwise.nil, fun r hr => by cases hr⟩
  | x :: L, last, h => by
    rw [risesF] at h
    by_cases hc : x.a ≤ last ∨ 1125899906842624 ≤ x.a ∨ x.n = 0 ∨ fairB x.n = false
    · rw [if_pos hc] at h; cases h
    · rw [if_neg hc] at h
      obtain ⟨h1, h2⟩ := rises_all L x.a h
      have hf : fairB x.n = true := by
        cases hq : fairB x.n with
        | true => rfl
        | false => exact absurd (.inr (.inr (.inr hq))) hc
      have hf2 : -1048576 ≤ x.n ∧ x.n ≤ 1048576 := by
        unfold fairB at hf
        simp at hf
        omega
      refine ⟨List.Pairwise.cons (fun y hy => (h2 y hy).1) h1, fun r hr => ?_⟩
      rcases List.mem_cons.1 hr with rfl | hr
      · exact ⟨by omega, by omega, by omega, hf2⟩
      · have := h2 r hr
        exact ⟨by omega, this.2⟩
theorem may_all {L : List Jp} (h : stepMayB L = true) : L.length ≤ 1024 ∧ L.Pairwise (fun x y => x.a < y.a) ∧ ∀ r ∈ L, -2 < r.a ∧ r.a < 1125899906842624 ∧ r.n ≠ 0 ∧ -1048576 ≤ r.n ∧ r.n ≤ 1048576 := by
  unfold stepMayB at h
  by_cases hl : 1024 < L.length
  · rw [if_pos hl] at h; cases h
  · rw [if_neg hl] at h
    exact ⟨by omega, rises_all L _ h⟩

set_option maxHeartbeats 1000000 in
set_option maxRecDepth 100000 in
theorem at_any (L : List Jp) (A : Option Addr) (c : Nat) (t : Int) (w : World) (h : Src encJ 2 w (fun _ => False) A L) (hm : stepMayB L = true) :
    Calls Tryz.prog 8 #[.slice A L.length c, .int .i64 t] w fun e w' => e = .returned (.int .i64 (sumTo L t)) ∧ Kept (fun _ => False) w w' := by
  obtain ⟨hl, hp, hr⟩ := may_all hm
  have hmy := fun wx hx => stepMay_any L A c wx hx (by unfold maxLen; omega)
  rw [hm] at hmy
  obtain ⟨S, hS⟩ : ∃ S, sumTo L t = S := ⟨_, rfl⟩
  have HS := Lib.hid hS
  have HP := Lib.hid hp
  have HR := Lib.hid hr
  rw [hS]
  clear hm hp hr hS
  go_enter Tryz.func8, Tryz.ntmps8
  go_wp2_with fail
  refine (hmy _ h).mono ?_
  rintro e w1 ⟨rfl, k1⟩
  go_wp2_with fail
  go_loopg [5, 13] L.length (fun k vv iv wr => ∃ (n : Nat) (v : Int), n + k = L.length ∧ iv = .int .i64 n ∧ vv = .int .i64 v ∧ Hid (v + sumTo (L.drop n) t = S) ∧ -((n : Int) * 1048576) ≤ v ∧ v ≤ n * 1048576 ∧ Kept (fun _ => False) w wr)
  case atStart => exact ⟨0, 0, by omega, rfl, rfl, by unfold Hid; rw [List.drop_zero, HS.out]; omega, by omega, by omega, k1⟩
  case round =>
    obtain ⟨n, v, hk, rfl, rfl, HV, hb1, hb2, hkept⟩ := hrel
    by_cases hlt : n < L.length
    · obtain ⟨o, ho⟩ : ∃ o, L[n]? = some o := ⟨L[n], List.getElem?_eq_getElem hlt⟩
      have hdr : L.drop n = o :: L.drop (n + 1) := by
        rw [List.drop_eq_getElem_cons hlt]
        congr 1
        rw [List.getElem?_eq_getElem hlt] at ho
        injection ho
      have hon := HR.out o (List.mem_of_getElem? ho)
      have hpr := HP.out
      rw [← List.take_append_drop n L, hdr] at hpr
      have hpr2 := (List.pairwise_cons.1 (List.pairwise_append.1 hpr).2.1).1
      have hv := HV.out
      rw [hdr, sumTo_cons] at hv
      obtain ⟨b, off, hA, _, x0, x1⟩ := (h.same hkept).cells2 ho
      subst hA
      obtain ⟨oa, on⟩ := o
      simp only at x0 x1 hv hon hpr2
      have k0 : Kept (fun _ => False) w (wr.alloc (.cells #[.int .i64 oa, .int .i64 on] 80)) := hkept.alloc _
      obtain ⟨hon1, hon2, hon3, hon4, hon5⟩ := hon
      by_cases g : t < oa
      · have hs : v = S := by
          rw [if_neg (by omega), sumTo_low (fun y hy => by have := hpr2 y hy; omega)] at hv
          omega
        clear hdr ho hv hpr hpr2 HV hb1 hb2
        subst hs
        go_wp2_with fail
        go_ret
        exact ⟨rfl, k0⟩
      · have g' : decide (t < oa) = false := by simp; omega
        rw [if_pos (by omega)] at hv
        have HV2 : Hid (v + on + sumTo (L.drop (n + 1)) t = S) := by unfold Hid; omega
        clear hdr ho hv hpr hpr2 HV
        go_wp2_with fail
        go_roundg (gk - 1)
        case measure => omega
        case rel => exact ⟨n + 1, v + on, by omega, int_eq (by omega), rfl, HV2, by omega, by omega, k0⟩
    · have e : n = L.length := by omega
      have hv := HV.out
      rw [e, List.drop_length, sumTo_nil] at hv
      have hs : v = S := by omega
      subst hs
      clear hv HV
      go_wp2_with fail
      go_ret
      exact ⟨rfl, hkept⟩

set_option maxHeartbeats 2000000 in
set_option maxRecDepth 100000 in
theorem least_ne (L : List Jp) (x : Jp) (A : Option Addr) (c : Nat) (w : World) (h : Src encJ 2 w (fun _ => False) A L) (hm : stepMayB L = true) (h0 : L[0]? = some x) :
    Calls Tryz.prog 55 #[.slice A L.length c] w fun e w' => ∃ m : Int, e = .returned (.int .i64 m) ∧ decide (0 ≤ m) = presB L 0 ∧ Kept (fun _ => False) w w' := by
  obtain ⟨hl, _, hr⟩ := may_all hm
  have hmy := fun wx hx => stepMay_any L A c wx hx (by unfold maxLen; omega)
  rw [hm] at hmy
  obtain ⟨S, hS⟩ : ∃ S, presB L 0 = S := ⟨_, rfl⟩
  have HR := Lib.hid hr
  have hlen : 0 < L.length := (List.getElem?_eq_some_iff.1 h0).1
  have hn0 : (L.length == 0) = false := by rw [beq_eq_false_iff_ne]; omega
  have hn0' : ((L.length : Int) == 0) = false := by rw [beq_eq_false_iff_ne]; omega
  have hst : 0 ≤ x.n ∨ S = false := by
    cases L with
    | nil => cases h0
    | cons y L =>
      simp at h0
      subst h0
      rw [presB, Int.zero_add] at hS
      by_cases q : 0 ≤ y.n
      · exact .inl q
      · rw [decide_eq_false q, Bool.false_and] at hS
        exact .inr hS.symm
  have HS := Lib.hid hS
  have HST := Lib.hid hst
  have hx := HR.out x (List.mem_of_getElem? h0)
  rw [hS]
  clear hm hr hS hst
  obtain ⟨xa, xn⟩ := x
  obtain ⟨_, _, _, hx4, hx5⟩ := hx
  simp only at hx4 hx5
  have LOOP : ∀ (l0 : Int), (0 ≤ l0 ∨ S = false) → -1048576 ≤ l0 → l0 ≤ 1048576 → (0 ≤ l0 ∧ presB L 0 = true ↔ S = true) := fun l0 q _ _ => by
    rw [HS.out]
    rcases q with q | q
    · exact ⟨fun q => q.2, fun q2 => ⟨q, q2⟩⟩
    · subst q; exact ⟨fun q => q.2, fun q2 => by cases q2⟩
  have LO := Lib.hid LOOP
  clear LOOP
  by_cases hxa : xa = -1
  · have hxa' : (xa == -1) = true := by simpa using hxa
    go_enter Tryz.func55, Tryz.ntmps55
    go_wp2_with fail
    refine (hmy _ h).mono ?_
    rintro e w1 ⟨rfl, k1⟩
    obtain ⟨b, off, hA, _, x0, x1⟩ := (h.same k1).cells2 h0
    subst hA
    simp only [Nat.zero_mul, Nat.add_zero] at x0 x1
    have HX0 := Lib.hid h0
    have HXA := Lib.hid hxa
    clear h0 hxa
    go_wp2_with fail
    go_loopg [3, 4, 26] L.length (fun k vv lv iv wr => ∃ (n : Nat) (v l : Int), n + k = L.length ∧ iv = .int .i64 n ∧ vv = .int .i64 v ∧ lv = .int .i64 l ∧ Hid (0 ≤ l ∧ presB (L.drop n) v = true ↔ S = true) ∧ -((n : Int) * 1048576) ≤ v ∧ v ≤ n * 1048576 ∧ -((n : Int) * 1048576) - 1048576 ≤ l ∧ l ≤ 1048576 ∧ Kept (fun _ => False) w wr)
    case atStart => exact ⟨0, 0, xn, by omega, rfl, rfl, rfl, LO.out xn HST.out (by omega) (by omega), by omega, by omega, by omega, by omega, k1⟩
    case round =>
      obtain ⟨n, v, l, hk, rfl, rfl, rfl, HV, hb1, hb2, hb3, hb4, hkept⟩ := hrel
      by_cases hlt : n < L.length
      · obtain ⟨o, ho⟩ : ∃ o, L[n]? = some o := ⟨L[n], List.getElem?_eq_getElem hlt⟩
        have hdr : L.drop n = o :: L.drop (n + 1) := by
          rw [List.drop_eq_getElem_cons hlt]
          congr 1
          rw [List.getElem?_eq_getElem hlt] at ho
          injection ho
        have hon := HR.out o (List.mem_of_getElem? ho)
        have hv := HV.out
        rw [hdr, presB] at hv
        obtain ⟨b', off', hA, _, y0, y1⟩ := (h.same hkept).cells2 ho
        injection hA with hA
        injection hA with e1 e2
        subst e1 e2
        obtain ⟨oa, on⟩ := o
        simp only at y0 y1 hv hon
        have k0 : Kept (fun _ => False) w (wr.alloc (.cells #[.int .i64 oa, .int .i64 on] 80)) := hkept.alloc _
        obtain ⟨hon1, hon2, hon3, hon4, hon5⟩ := hon
        have HV2 := Lib.hid hv
        clear hdr ho hv HV x0 x1
        go_wp2_with fail
        go_roundg (gk - 1)
        case measure => omega
        case rel =>
          refine ⟨n + 1, v + on, min l (v + on), by omega, int_eq (by omega), rfl, rfl, ?_, by omega, by omega, by omega, by omega, k0⟩
          have := HV2.out
          unfold Hid
          rw [← this]
          simp only [Bool.and_eq_true, decide_eq_true_eq]
          constructor
          · rintro ⟨q1, q2⟩; exact ⟨by omega, by omega, q2⟩
          · rintro ⟨q0, q1, q2⟩; exact ⟨by omega, q2⟩
      · have e : n = L.length := by omega
        have hv := HV.out
        rw [e, List.drop_length, presB] at hv
        have HV2 := Lib.hid hv
        clear hv HV
        go_wp2_with fail
        go_ret
        refine ⟨l, rfl, ?_, hkept⟩
        have := HV2.out
        cases S with
        | true => exact decide_eq_true (this.2 rfl).1
        | false => exact decide_eq_false (fun q => by have := this.1 ⟨q, trivial⟩; cases this)
  · have hxa' : (xa == -1) = false := by simpa using hxa
    go_enter Tryz.func55, Tryz.ntmps55
    go_wp2_with fail
    refine (hmy _ h).mono ?_
    rintro e w1 ⟨rfl, k1⟩
    obtain ⟨b, off, hA, _, x0, x1⟩ := (h.same k1).cells2 h0
    subst hA
    simp only [Nat.zero_mul, Nat.add_zero] at x0 x1
    have HX0 := Lib.hid h0
    have HXA := Lib.hid hxa
    clear h0 hxa
    go_wp2_with fail
    go_loopg [3, 4, 26] L.length (fun k vv lv iv wr => ∃ (n : Nat) (v l : Int), n + k = L.length ∧ iv = .int .i64 n ∧ vv = .int .i64 v ∧ lv = .int .i64 l ∧ Hid (0 ≤ l ∧ presB (L.drop n) v = true ↔ S = true) ∧ -((n : Int) * 1048576) ≤ v ∧ v ≤ n * 1048576 ∧ -((n : Int) * 1048576) - 1048576 ≤ l ∧ l ≤ 1048576 ∧ Kept (fun _ => False) w wr)
    case atStart => exact ⟨0, 0, 0, by omega, rfl, rfl, rfl, LO.out 0 (.inl (Int.le_refl 0)) (by omega) (by omega), by omega, by omega, by omega, by omega, k1⟩
    case round =>
      obtain ⟨n, v, l, hk, rfl, rfl, rfl, HV, hb1, hb2, hb3, hb4, hkept⟩ := hrel
      by_cases hlt : n < L.length
      · obtain ⟨o, ho⟩ : ∃ o, L[n]? = some o := ⟨L[n], List.getElem?_eq_getElem hlt⟩
        have hdr : L.drop n = o :: L.drop (n + 1) := by
          rw [List.drop_eq_getElem_cons hlt]
          congr 1
          rw [List.getElem?_eq_getElem hlt] at ho
          injection ho
        have hon := HR.out o (List.mem_of_getElem? ho)
        have hv := HV.out
        rw [hdr, presB] at hv
        obtain ⟨b', off', hA, _, y0, y1⟩ := (h.same hkept).cells2 ho
        injection hA with hA
        injection hA with e1 e2
        subst e1 e2
        obtain ⟨oa, on⟩ := o
        simp only at y0 y1 hv hon
        have k0 : Kept (fun _ => False) w (wr.alloc (.cells #[.int .i64 oa, .int .i64 on] 80)) := hkept.alloc _
        obtain ⟨hon1, hon2, hon3, hon4, hon5⟩ := hon
        have HV2 := Lib.hid hv
        clear hdr ho hv HV x0 x1
        go_wp2_with fail
        go_roundg (gk - 1)
        case measure => omega
        case rel =>
          refine ⟨n + 1, v + on, min l (v + on), by omega, int_eq (by omega), rfl, rfl, ?_, by omega, by omega, by omega, by omega, k0⟩
          have := HV2.out
          unfold Hid
          rw [← this]
          simp only [Bool.and_eq_true, decide_eq_true_eq]
          constructor
          · rintro ⟨q1, q2⟩; exact ⟨by omega, by omega, q2⟩
          · rintro ⟨q0, q1, q2⟩; exact ⟨by omega, q2⟩
      · have e : n = L.length := by omega
        have hv := HV.out
        rw [e, List.drop_length, presB] at hv
        have HV2 := Lib.hid hv
        clear hv HV
        go_wp2_with fail
        go_ret
        refine ⟨l, rfl, ?_, hkept⟩
        have := HV2.out
        cases S with
        | true => exact decide_eq_true (this.2 rfl).1
        | false => exact decide_eq_false (fun q => by have := this.1 ⟨q, trivial⟩; cases this)
theorem least_any (L : List Jp) (A : Option Addr) (c : Nat) (w : World) (h : Src encJ 2 w (fun _ => False) A L) (hm : stepMayB L = true) :
    Calls Tryz.prog 55 #[.slice A L.length c] w fun e w' => ∃ m : Int, e = .returned (.int .i64 m) ∧ decide (0 ≤ m) = presB L 0 ∧ Kept (fun _ => False) w w' := by
  cases L with
  | nil =>
    have hmy := fun wx hx => stepMay_any [] A c wx hx (by unfold maxLen; simp)
    rw [hm] at hmy
    go_enter Tryz.func55, Tryz.ntmps55
    go_wp2_with fail
    refine (hmy _ h).mono ?_
    rintro e w1 ⟨rfl, k1⟩
    go_wp2_with fail
    go_ret
    exact ⟨0, rfl, rfl, k1⟩
  | cons x L => exact least_ne (x :: L) x A c w h hm rfl
end Go.Proofs.YthkeigljiinlbaaGreat
