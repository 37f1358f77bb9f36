/- group.Rows. -/
import Derived.Test.YthkeigljiinlbaaGreatM40
import Derived.Test.YthkeigljiinlbaaGreatM28
namespace Go.Proofs.YthkeigljiinlbaaGreat
open Go.RowKit Go.MapKept

theorem okL_parts {L : List Ed} (h : okL L = true) : edMay L = true ∧ edTab L = true ∧ ∀ x ∈ L, fitB x.r = true := by
  unfold okL at h
  rw [Bool.and_eq_true, Bool.and_eq_true, List.all_eq_true] at h
  exact ⟨h.1, h.2.1, h.2.2⟩
theorem one64_of {r : List Wd} (h : fitB r = true) (hI : ∀ u ∈ r, I64 u.n) : One64 r := by
  obtain ⟨x, rfl⟩ := fit_one h
  exact ⟨x, hI _ (List.mem_singleton.2 rfl), rfl⟩
theorem sumTo_lo2 : ∀ (f : List Jp) (t : Int), (∀ x ∈ f, -1048576 ≤ x.n) → -(1048576 * (f.length : Int)) ≤ sumTo f t
  | [], _, _ => by simp [sumTo_nil]
  | x :: f, t, h => by
    have ih := sumTo_lo2 f t (fun y hy => h y (List.mem_cons_of_mem _ hy))
    have hx := h x (List.mem_cons_self ..)
    rw [sumTo_cons, List.length_cons]
    by_cases hc : x.a ≤ t
    · rw [if_pos hc]; omega
    · rw [if_neg hc]; omega
theorem cntE_bound {L : List Ed} (hm : edMay L = true) (hl : L.length ≤ 200) (t : Int) : -209715200 ≤ cntE L t ∧ cntE L t ≤ 209715200 := by
  unfold cntE
  have h1 := sumTo_bound (L.map Ed.j) t (fun y hy => by
    obtain ⟨x, hx, rfl⟩ := List.mem_map.1 hy
    exact (edMay_ed hm hx).2.2.2.2)
  have h2 := sumTo_lo2 (L.map Ed.j) t (fun y hy => by
    obtain ⟨x, hx, rfl⟩ := List.mem_map.1 hy
    exact (edMay_ed hm hx).2.2.2.1)
  rw [List.length_map] at h1 h2
  omega
/-- What the rows of the answer say. -/
structure RowsOk (L X : List Ed) : Prop where
  may : edMay X = true
  rows : ∀ x ∈ X, ∃ t, x.r = numW (cntE L t)
  len : X.length ≤ 402
  val : ∀ r t, t < 1125899906842624 → valE X r t = if 0 ≤ t ∧ 0 < cntE L t ∧ r = numW (cntE L t) then 1 else 0
theorem rows_of_norm {L X0 Z : List Ed} {Rs : List (List Wd × List Jp)} (hm : MapR (runsL Z) Rs) (hp : Z.Perm X0) (hs : Srt keyD Z) (hl : X0.length ≤ 402) (hok : ∀ x ∈ X0, OkN x) (hr : ∀ x ∈ X0, ∃ t, x.r = numW (cntE L t))
    (hv : ∀ r t, t < 1125899906842624 → valE X0 r t = if 0 ≤ t ∧ 0 < cntE L t ∧ r = numW (cntE L t) then 1 else 0) : RowsOk L (flatR Rs) := by
  obtain ⟨h1, h2, h3, h4⟩ := norm_law hm hp hs (by omega) hok
  refine ⟨h1, fun x hx => ?_, by omega, fun r t ht => by rw [h4 r t ht, hv r t ht]⟩
  obtain ⟨_, y, hy, e⟩ := h2 x hx
  obtain ⟨t, et⟩ := hr y hy
  exact ⟨t, by rw [← e, et]⟩
theorem cuts_okN {L : List Ed} {C : List Int} (hC : CutsL L C) (hm : edMay L = true) : (∀ x ∈ ansL (cntE L) C, OkN x ∧ ∃ t, x.r = numW (cntE L t)) := by
  intro x hx
  obtain ⟨h1, a, _, e⟩ := ansL_mem (cntE L) C (fun a ha => by
    rcases (hC.mem a).1 ha with q | ⟨y, hy, e, q⟩
    · omega
    · have := edMay_ed hm hy
      omega) x hx
  exact ⟨h1, a, e⟩

set_option maxHeartbeats 4000000 in
set_option maxRecDepth 100000 in
theorem rows_any (L : List Ed) (A As Aa : Option Addr) (c cs ca : Nat) (w : World) (hl : L.length ≤ 200) (hL : EdS w (fun _ => False) A L) (hs : Src encC 2 w (fun _ => False) As S1) (ha : Src encA 3 w (fun _ => False) Aa A1) (hI : ∀ x ∈ L, ∀ u ∈ x.r, I64 u.n) :
    Calls Tryz.prog 5 #[.slice A L.length c, .slice As 1 cs, .slice none 0 0, .slice Aa 1 ca, .agg #[.int .i64 1, .int .i64 0, .int .i64 0], .int .i64 0, .int .i64 0] w fun e w' =>
      ∃ (v : Value) (k : Int), e = .returned (.tuple #[v, .int .i64 k]) ∧ ((k = 0 ∧ okL L = true ∧ ∃ M', EdN w w' v M' ∧ RowsOk L (M'.map Prod.snd)) ∨ (k ≠ 0 ∧ v = .slice none 0 0 ∧ Kept (fun _ => False) w w' ∧ (okL L = false ∨ ∃ t, 1048576 < cntE L t))) := by
  have k0 := (Kept.refl (fun _ => False) w).alloc (.cells #[.int .i64 1, .int .i64 0, .int .i64 0] 36)
  have g0 := heap_alloc_new w (.cells #[.int .i64 1, .int .i64 0, .int .i64 0] 36)
  have hsc := fun wx h1 h2 => gschema_any As Aa cs ca wx h1 h2
  have hck := fun wx h1 h2 => gcheck_any L A As c cs wx (by omega) h1 h2
  have htk := fun wx => tick_any 0 wx (Int.le_refl _) (by decide)
  obtain ⟨okv, hokv⟩ : ∃ okv, okL L = okv := ⟨_, rfl⟩
  have HOK := Lib.hid hokv
  rw [hokv] at hck
  have HL := Lib.hid hL
  have HS := Lib.hid hs
  have HA := Lib.hid ha
  clear hokv hL hs ha
  go_enter Tryz.func5, Tryz.ntmps5
  go_wp2_with fail
  refine (hsc _ (HS.out.same k0) (HA.out.same k0)).mono ?_
  rintro e w1 ⟨v1, rfl, k1⟩
  have k01 := k0.trans k1
  have K01 := Lib.hid k01
  have G0 := Lib.hid (k1.heap g0 (fun q => q))
  clear k0 k1 g0 hsc
  go_wp2_with fail
  refine (hck _ (HL.out.same k01) (HS.out.same k01)).mono ?_
  rintro e w2 ⟨kk, rfl, hkk, k2⟩
  have K02 := Lib.hid (k01.trans k2)
  cases okv with
  | false =>
    have hk1 : (kk != 0) = true := hkk
    clear k01 k2 hck hkk
    go_wp2_with fail
    go_ret2
    exact ⟨_, kk, rfl, .inr ⟨by simpa using hk1, rfl, K02.out, .inl HOK.out⟩⟩
  | true =>
    have hk1 : kk = 0 := by simpa using hkk
    subst hk1
    obtain ⟨hmay, htab, hfit⟩ := okL_parts HOK.out
    have h1 : ∀ x ∈ L, One64 x.r := fun x hx => one64_of (hfit x hx) (hI x hx)
    have g2 := k2.heap G0.out (fun q => q)
    have y0 := cell_of_row _ _ 0 _ _ _ g2
    have y1 := cell_of_row _ _ 1 _ _ _ g2
    have y2 := cell_of_row _ _ 2 _ _ _ g2
    simp only [List.getElem?_toArray, List.getElem?_cons_zero, List.getElem?_cons_succ] at y0 y1 y2
    have kp : Kept (fun _ => False) w2 ((w2.alloc (.cells #[.slice As 1 cs, .slice Aa 1 ca, .int .i64 1, .int .i64 0, .int .i64 0, .int .i64 0, .int .i64 0] 62)).alloc (.cells #[] 50)) := ((Kept.refl _ w2).alloc _).alloc _
    have gp : ((w2.alloc (.cells #[.slice As 1 cs, .slice Aa 1 ca, .int .i64 1, .int .i64 0, .int .i64 0, .int .i64 0, .int .i64 0] 62)).alloc (.cells #[] 50)).heap[w2.heap.size]? = some (.cells #[.slice As 1 cs, .slice Aa 1 ca, .int .i64 1, .int .i64 0, .int .i64 0, .int .i64 0, .int .i64 0] 62 (0, 0)) := ((Kept.refl (fun _ => False) _).alloc (.cells #[] 50)).heap (heap_alloc_new w2 _) (fun q => q)
    have hrow0 := Row.new (enc := encE) (sz := 3) (T := 50) (w2.alloc (.cells #[.slice As 1 cs, .slice Aa 1 ca, .int .i64 1, .int .i64 0, .int .i64 0, .int .i64 0, .int .i64 0] 62))
    rw [World.size_alloc] at hrow0
    have HROW := Lib.hid hrow0
    have KP := Lib.hid kp
    have GP := Lib.hid gp
    have HM := Lib.hid hmay
    have HTB := Lib.hid htab
    have H1 := Lib.hid h1
    have hgr := fun wx hx => ggroups_any L A c wx (by omega) hx (fun x hx => (fit_one (hfit x hx)).may)
    have hLp := HL.out.same (K02.out.trans kp)
    clear kp gp hrow0 hmay htab h1 hfit g2 hck k2 k01 hkk
    go_wp2_with fail
    refine (htk _).mono ?_
    rintro e w3 ⟨rfl, rfl⟩
    go_wp2_with fail
    refine (htk _).mono ?_
    rintro e w4 ⟨rfl, rfl⟩
    go_wp2_with fail
    refine (hgr _ hLp).mono ?_
    rintro e w5 ⟨u, Lg, rfl, hn5, hcase⟩
    obtain ⟨Au, cu, rfl, _, _⟩ := hn5.shape
    have hkX : Kept (fun _ => False) w w5 := (K02.out.trans KP.out).trans hn5.kept
    have hE0 : EdN w w5 (.slice (some ⟨w4.heap.size + 1, 0, none⟩) 0 0) [] := ⟨HROW.out.same hn5.kept, (fun j hj => (show w4.heap.size + 1 = j from by simpa [Value.ownBlock] using hj) ▸ Nat.le_trans K02.out.size (Nat.le_succ _)), (fun p hp => by cases hp), hkX⟩
    rcases hcase with ⟨hLn, rfl⟩ | ⟨hLn, gb, v, Av, cv, M, rfl, hG⟩
    · have hnm := fun wx (hx : Kept (fun _ => False) w5 wx) => edgeNorm_any [] (.slice (some ⟨w4.heap.size + 1, 0, none⟩) 0 0) w wx ⟨hE0.row.same hx, hE0.own, (fun p hp => by cases hp), hE0.kept.trans hx⟩ (by simp) (fun p hp => by cases hp)
      have HLN := Lib.hid hLn
      clear hn5 hE0 hLp hLn hgr
      go_wp2_with fail
      go_loopg [61, 20] 0 (fun k iv ov wr => iv = .int .i64 0 ∧ ov = .slice (some ⟨w4.heap.size + 1, 0, none⟩) 0 0 ∧ w5 = wr)
      case atStart => exact ⟨rfl, rfl, rfl⟩
      case round =>
        obtain ⟨rfl, rfl, rfl⟩ := hrel
        go_wp2_with fail
        refine (hnm _ (Kept.refl _ _)).mono ?_
        rintro e w6 ⟨v6, M6, Rs, Z, rfl, hE6, hM6, hRs, hZ, hsrt⟩
        have HE6 := Lib.hid hE6
        have hRO : RowsOk L (M6.map Prod.snd) := by
          rw [hM6]
          refine rows_of_norm hRs hZ hsrt (by simp) (fun x hx => by cases hx) (fun x hx => by cases hx) (fun r t ht => ?_)
          rw [HLN.out]
          have e0 : cntE [] t = 0 := rfl
          rw [e0, if_neg (fun q => absurd q.2.1 (by decide))]
          rfl
        have HRO := Lib.hid hRO
        clear hE6 hM6 hRs hZ hsrt hRO hnm
        go_wp2_with fail
        go_ret2
        exact ⟨_, 0, rfl, .inl ⟨rfl, HOK.out, M6, HE6.out.from hkX, HRO.out⟩⟩
    · obtain ⟨ag, hn5c⟩ : ∃ Ag2, Src encQ 1 w5 (fun _ => False) Au [gb] := by
        obtain ⟨A9, c9, e9, _, hs9⟩ := hn5.row.asSrc encQ_len
        injection e9 with e91
        subst e91
        exact ⟨0, hs9⟩
      clear ag
      obtain ⟨bu, ou, rfl, _, hcu⟩ := hn5c 0 _ rfl
      have x0 := hcu 0 _ rfl
      unfold ptrV at x0
      simp only [Nat.zero_mul, Nat.add_zero] at x0
      rw [show ([gb] : List Nat).length = 1 from rfl]
      have gp5 := hn5.kept.heap GP.out (fun q => q)
      have p0 := cell_of_row _ _ 0 _ _ _ gp5
      have p1 := cell_of_row _ _ 1 _ _ _ gp5
      have p2 := cell_of_row _ _ 2 _ _ _ gp5
      have p3 := cell_of_row _ _ 3 _ _ _ gp5
      have p4 := cell_of_row _ _ 4 _ _ _ gp5
      have p5 := cell_of_row _ _ 5 _ _ _ gp5
      have p6 := cell_of_row _ _ 6 _ _ _ gp5
      simp only [List.getElem?_toArray, List.getElem?_cons_zero, List.getElem?_cons_succ] at p0 p1 p2 p3 p4 p5 p6
      have hans := answer_any _ w5 L As Aa cs ca gb Av cv v M hG hn5.kept (HS.out.same hkX) (HA.out.same hkX) hl HM.out HTB.out H1.out
      have HE0 := Lib.hid hE0
      clear hG hn5 hn5c hcu hE0 gp5 hLn hLp hgr
      go_wp2_with fail
      go_loopg [61, 20] 1 (fun k iv ov wr => (k = 1 ∧ iv = .int .i64 0 ∧ ov = .slice (some ⟨w4.heap.size + 1, 0, none⟩) 0 0 ∧ w5 = wr) ∨ (k = 0 ∧ iv = .int .i64 1 ∧ Hid (∃ M2 C, EdN w wr ov M2 ∧ CutsL L C ∧ M2.map Prod.snd = ansL (cntE L) C)))
      case atStart => exact .inl ⟨rfl, rfl, rfl, rfl⟩
      case round =>
        rcases hrel with ⟨rfl, rfl, rfl, rfl⟩ | ⟨rfl, rfl, HF⟩
        · go_wp2_with fail
          refine hans.mono ?_
          rintro e w6 ⟨u6, k6, rfl, hres⟩
          rcases hres with ⟨rfl, M2, C, hE2, hC, hM2⟩ | ⟨hk6, rfl, kk6, hbig⟩
          · have hl2 : M2.length ≤ 402 := by
              have h6 := congrArg List.length hM2
              rw [List.length_map] at h6
              have := ansL_len (cntE L) C
              have := hC.len
              omega
            obtain ⟨v7, w7, hrun, A7, c7, rfl, hE7, _, _, _⟩ := EdN.cat (P := Tryz.prog) 22 22 (.agg #[.slice none 0 0, .int .i64 0, .int .i64 0]) 40 Tryz.underlying22 (by kernel_rfl) rfl HE0.out (Kept.refl _ w5) hE2 (by simp only [List.length_nil, maxLen]; omega) (by simp only [List.length_nil]; omega)
            simp only [List.length_nil, Nat.zero_add, List.nil_append] at hrun hE7
            have HF := Lib.hid (show ∃ M2 C, EdN w w7 (.slice A7 M2.length c7) M2 ∧ CutsL L C ∧ M2.map Prod.snd = ansL (cntE L) C from ⟨M2, C, hE7, hC, hM2⟩)
            obtain ⟨NM, hNM⟩ : ∃ NM, M2.length = NM := ⟨_, rfl⟩
            have HF2 : Hid (∃ M2 C, EdN w w7 (.slice A7 NM c7) M2 ∧ CutsL L C ∧ M2.map Prod.snd = ansL (cntE L) C) := ⟨M2, C, hNM ▸ hE7, hC, hM2⟩
            rw [hNM] at hrun
            clear hE2 hC hM2 hE7 hNM HF hl2 hans
            have tok := True.intro
            go_wp2_with (at_builtin; have _t := tok; refine wpList_run rfl _ _ _ rfl rfl rfl hrun ?_; clear tok)
            go_roundg 0
            case measure => decide
            case rel => exact .inr ⟨rfl, rfl, HF2⟩
          · have hk7 : (k6 != 0) = true := by simpa using hk6
            have KK := Lib.hid (hkX.trans kk6)
            clear kk6 hans
            go_wp2_with fail
            go_ret2
            exact ⟨_, k6, rfl, .inr ⟨hk6, rfl, KK.out, .inr hbig⟩⟩
        · obtain ⟨M2, C, hE2, hC, hM2⟩ := HF.out
          have hcz := cuts_okN hC HM.out
          have hl2 : (M2.map Prod.snd).length ≤ 402 := by
            rw [hM2]
            have := ansL_len (cntE L) C
            have := hC.len
            omega
          have hok2 : ∀ x ∈ M2.map Prod.snd, OkN x := fun x hx => (hcz x (by rw [← hM2]; exact hx)).1
          have hnm := edgeNorm_any M2 _ w wr hE2 (by rw [List.length_map] at hl2; omega) (fun p hp => hok2 p.2 (List.mem_map.2 ⟨p, hp, rfl⟩))
          have kwr := hE2.kept
          have HML := Lib.hid (show _ ∧ _ ∧ _ ∧ _ from ⟨hM2, hC, hl2, hok2⟩)
          have HCZ := Lib.hid hcz
          clear hE2 hC hM2 hcz hl2 hok2 HF hans
          go_wp2_with fail
          refine hnm.mono ?_
          rintro e w6 ⟨v6, M6, Rs, Z, rfl, hE6, hM6, hRs, hZ, hsrt⟩
          have HE6 := Lib.hid (hE6.from kwr)
          have hRO : RowsOk L (M6.map Prod.snd) := by
            obtain ⟨q1, q2, q3, q4⟩ := HML.out
            rw [hM6]
            refine rows_of_norm hRs hZ hsrt q3 q4 (fun x hx => (HCZ.out x (by rw [← q1]; exact hx)).2) (fun r t ht => ?_)
            rw [q1]
            exact cuts_law q2 (fun x hx => by have := edMay_ed HM.out hx; omega) r t ht
          have HRO := Lib.hid hRO
          clear hE6 hM6 hRs hZ hsrt hRO hnm
          go_wp2_with fail
          go_ret2
          exact ⟨_, 0, rfl, .inl ⟨rfl, HOK.out, M6, HE6.out, HRO.out⟩⟩
end Go.Proofs.YthkeigljiinlbaaGreat

/- pack: lifetimes of a function, first opened first closed. -/
namespace Go.Proofs.YthkeigljiinlbaaGreat
open Go.RowKit

def fifo1 (x : Jp) (s : List (Int × Int) × List Int) : List (Int × Int) × List Int :=
  if 0 ≤ x.n then (s.1, s.2 ++ List.replicate x.n.toNat x.a) else (s.1 ++ (s.2.take (-x.n).toNat).map (fun y => (y, x.a)), s.2.drop (-x.n).toNat)
def fifo : List Jp → List (Int × Int) × List Int → List (Int × Int) × List Int
  | [], s => s
  | x :: f, s => fifo f (fifo1 x s)
theorem fifo_app : ∀ (f g : List Jp) (s : List (Int × Int) × List Int), fifo (f ++ g) s = fifo g (fifo f s)
  | [], _, _ => rfl
  | x :: f, g, s => by rw [List.cons_append, fifo, fifo, fifo_app f g]
def cntS (S : List (Int × Int)) (t : Int) : Int := (S.map (fun p => if p.1 ≤ t ∧ t < p.2 then (1 : Int) else 0)).sum
def cntQ (Q : List Int) (t : Int) : Int := (Q.map (fun y => if y ≤ t then (1 : Int) else 0)).sum
theorem cntS_app (A B : List (Int × Int)) (t : Int) : cntS (A ++ B) t = cntS A t + cntS B t := by unfold cntS; rw [List.map_append, List.sum_append]
theorem cntQ_app (A B : List Int) (t : Int) : cntQ (A ++ B) t = cntQ A t + cntQ B t := by unfold cntQ; rw [List.map_append, List.sum_append]
theorem cntQ_rep (a t : Int) : ∀ n : Nat, cntQ (List.replicate n a) t = if a ≤ t then (n : Int) else 0
  | 0 => by simp [cntQ]
  | n + 1 => by
    have ih := cntQ_rep a t n
    unfold cntQ at ih ⊢
    rw [List.replicate_succ, List.map_cons, List.sum_cons, ih]
    by_cases h : a ≤ t
    · rw [if_pos h, if_pos h, if_pos h]; omega
    · rw [if_neg h, if_neg h, if_neg h]; rfl
theorem cntS_close (a t : Int) : ∀ Q : List Int, (∀ y ∈ Q, y < a) → cntS (Q.map (fun y => (y, a))) t = cntQ Q t - (if a ≤ t then (Q.length : Int) else 0)
  | [], _ => by simp [cntS, cntQ]
  | y :: Q, h => by
    have ih := cntS_close a t Q (fun z hz => h z (List.mem_cons_of_mem _ hz))
    have hy := h y (List.mem_cons_self ..)
    unfold cntS cntQ at ih ⊢
    rw [List.map_cons, List.map_cons, List.sum_cons, ih, List.map_cons, List.sum_cons, List.length_cons]
    simp only
    by_cases h1 : y ≤ t
    · by_cases h2 : a ≤ t
      · rw [if_neg (by omega), if_pos h1, if_pos h2, if_pos h2]; omega
      · rw [if_pos (by omega), if_pos h1, if_neg h2, if_neg h2]; omega
    · rw [if_neg (by omega), if_neg h1, if_neg (by omega), if_neg (by omega)]; omega
/-- There is enough to close all along. -/
def enoughF : List Jp → Nat → Prop
  | [], _ => True
  | x :: f, n => (0 ≤ x.n ∨ (-x.n).toNat ≤ n) ∧ enoughF f (if 0 ≤ x.n then n + x.n.toNat else n - (-x.n).toNat)
theorem pres_enough : ∀ (f : List Jp) (n : Nat), presB f n = true → enoughF f n
  | [], _, _ => trivial
  | x :: f, n, h => by
    rw [presB, Bool.and_eq_true, decide_eq_true_eq] at h
    refine ⟨by omega, ?_⟩
    by_cases hx : 0 ≤ x.n
    · rw [if_pos hx]
      exact pres_enough f _ (by rw [show ((n + x.n.toNat : Nat) : Int) = n + x.n by omega]; exact h.2)
    · rw [if_neg hx]
      exact pres_enough f _ (by rw [show ((n - (-x.n).toNat : Nat) : Int) = n + x.n by omega]; exact h.2)
theorem fifo_law (t : Int) : ∀ (f : List Jp) (Cl : List (Int × Int)) (Q : List Int) (last : Int), f.Pairwise (fun x y => x.a < y.a) → (∀ x ∈ f, last < x.a) → (∀ y ∈ Q, y ≤ last) → enoughF f Q.length →
    cntS (fifo f (Cl, Q)).1 t + cntQ (fifo f (Cl, Q)).2 t = cntS Cl t + cntQ Q t + sumTo f t
  | [], Cl, Q, _, _, _, _, _ => by
    rw [fifo, sumTo_nil]
    show cntS Cl t + cntQ Q t = _
    omega
  | x :: f, Cl, Q, last, hp, hl, hQ, he => by
    rw [List.pairwise_cons] at hp
    have hx := hl x (List.mem_cons_self ..)
    rw [fifo, sumTo_cons]
    by_cases hn : 0 ≤ x.n
    · have e1 : fifo1 x (Cl, Q) = (Cl, Q ++ List.replicate x.n.toNat x.a) := by unfold fifo1; rw [if_pos hn]
      have he2 := he.2
      rw [if_pos hn] at he2
      rw [e1, fifo_law t f Cl _ x.a hp.2 hp.1 (fun y hy => by
        rcases List.mem_append.1 hy with hy | hy
        · have := hQ y hy; omega
        · have := (List.mem_replicate.1 hy).2; omega) (by rw [List.length_append, List.length_replicate]; exact he2), cntQ_app, cntQ_rep]
      by_cases ha : x.a ≤ t
      · rw [if_pos ha, if_pos ha]; omega
      · rw [if_neg ha, if_neg ha]; omega
    · have e1 : fifo1 x (Cl, Q) = (Cl ++ (Q.take (-x.n).toNat).map (fun y => (y, x.a)), Q.drop (-x.n).toNat) := by unfold fifo1; rw [if_neg hn]
      have he1 := he.1
      have he2 := he.2
      rw [if_neg hn] at he2
      have hcl := cntS_close x.a t (Q.take (-x.n).toNat) (fun y hy => by have := hQ y (List.mem_of_mem_take hy); omega)
      have hq : cntQ Q t = cntQ (Q.take (-x.n).toNat) t + cntQ (Q.drop (-x.n).toNat) t := by rw [← cntQ_app, List.take_append_drop]
      rw [e1, fifo_law t f _ _ x.a hp.2 hp.1 (fun y hy => by have := hQ y (List.mem_of_mem_drop hy); omega) (by rw [List.length_drop]; exact he2), cntS_app, hcl, hq, List.length_take]
      by_cases ha : x.a ≤ t
      · rw [if_pos ha, if_pos ha]; omega
      · rw [if_neg ha, if_neg ha]; omega
def mostZ : List Jp → Int
  | [] => 0
  | x :: f => max x.n 0 + mostZ f
theorem mostZ_app : ∀ (f g : List Jp), mostZ (f ++ g) = mostZ f + mostZ g
  | [], g => by rw [List.nil_append, mostZ]; omega
  | x :: f, g => by rw [List.cons_append, mostZ, mostZ, mostZ_app f g]; omega
theorem mostZ_pos : ∀ (f : List Jp), 0 ≤ mostZ f
  | [] => Int.le_refl _
  | x :: f => by have := mostZ_pos f; rw [mostZ]; omega
theorem mostZ_bound : ∀ (f : List Jp), (∀ x ∈ f, x.n ≤ 1048576) → mostZ f ≤ 1048576 * (f.length : Int)
  | [], _ => by simp [mostZ]
  | x :: f, h => by
    have := mostZ_bound f (fun y hy => h y (List.mem_cons_of_mem _ hy))
    have := h x (List.mem_cons_self ..)
    rw [mostZ, List.length_cons]
    omega
theorem mostZ_take (f : List Jp) (i : Nat) : mostZ (f.take i) ≤ mostZ f := by
  have h := mostZ_app (f.take i) (f.drop i)
  rw [List.take_append_drop] at h
  have := mostZ_pos (f.drop i)
  omega
theorem fifo_len : ∀ (f : List Jp) (s : List (Int × Int) × List Int), ((fifo f s).1.length + (fifo f s).2.length : Int) ≤ s.1.length + s.2.length + mostZ f
  | [], s => by rw [fifo, mostZ]; omega
  | x :: f, s => by
    have ih := fifo_len f (fifo1 x s)
    rw [fifo, mostZ]
    have : ((fifo1 x s).1.length + (fifo1 x s).2.length : Int) ≤ s.1.length + s.2.length + max x.n 0 := by
      unfold fifo1
      by_cases hn : 0 ≤ x.n
      · rw [if_pos hn]
        simp only [List.length_append, List.length_replicate]
        omega
      · rw [if_neg hn]
        simp only [List.length_append, List.length_map, List.length_take, List.length_drop]
        omega
    omega
theorem enough_app : ∀ (f g : List Jp) (Cl : List (Int × Int)) (Q : List Int), enoughF (f ++ g) Q.length → enoughF g (fifo f (Cl, Q)).2.length
  | [], g, Cl, Q, h => h
  | x :: f, g, Cl, Q, h => by
    rw [fifo]
    have h2 := h.2
    by_cases hn : 0 ≤ x.n
    · have e1 : fifo1 x (Cl, Q) = (Cl, Q ++ List.replicate x.n.toNat x.a) := by unfold fifo1; rw [if_pos hn]
      rw [if_pos hn] at h2
      rw [e1]
      exact enough_app f g _ _ (by rw [List.length_append, List.length_replicate]; exact h2)
    · have e1 : fifo1 x (Cl, Q) = (Cl ++ (Q.take (-x.n).toNat).map (fun y => (y, x.a)), Q.drop (-x.n).toNat) := by unfold fifo1; rw [if_neg hn]
      rw [if_neg hn] at h2
      rw [e1]
      exact enough_app f g _ _ (by rw [List.length_drop]; exact h2)
/-- A function's lifetimes. -/
def spansF (f : List Jp) : List (Int × Int) := (fifo f ([], [])).1 ++ (fifo f ([], [])).2.map (fun y => (y, 1125899906842624))
theorem fifo_open : ∀ (f : List Jp) (Cl : List (Int × Int)) (Q : List Int), ∀ y ∈ (fifo f (Cl, Q)).2, y ∈ Q ∨ ∃ x ∈ f, x.a = y
  | [], Cl, Q, y, hy => .inl hy
  | x :: f, Cl, Q, y, hy => by
    rw [fifo] at hy
    by_cases hn : 0 ≤ x.n
    · have e1 : fifo1 x (Cl, Q) = (Cl, Q ++ List.replicate x.n.toNat x.a) := by unfold fifo1; rw [if_pos hn]
      rw [e1] at hy
      rcases fifo_open f _ _ y hy with h | ⟨z, hz, e⟩
      · rcases List.mem_append.1 h with h | h
        · exact .inl h
        · exact .inr ⟨x, List.mem_cons_self .., (List.mem_replicate.1 h).2.symm⟩
      · exact .inr ⟨z, List.mem_cons_of_mem _ hz, e⟩
    · have e1 : fifo1 x (Cl, Q) = (Cl ++ (Q.take (-x.n).toNat).map (fun y => (y, x.a)), Q.drop (-x.n).toNat) := by unfold fifo1; rw [if_neg hn]
      rw [e1] at hy
      rcases fifo_open f _ _ y hy with h | ⟨z, hz, e⟩
      · exact .inl (List.mem_of_mem_drop h)
      · exact .inr ⟨z, List.mem_cons_of_mem _ hz, e⟩
theorem spans_law {f : List Jp} (h : tabB f = true) (t : Int) (ht : t < 1125899906842624) : cntS (spansF f) t = sumTo f t := by
  unfold tabB at h
  rw [Bool.and_eq_true] at h
  obtain ⟨_, hp, hall⟩ := may_all h.1
  have h1 := fifo_law t f [] [] (-2) hp (fun x hx => (hall x hx).1) (fun y hy => by cases hy) (pres_enough f 0 h.2)
  have h2 := cntS_close 1125899906842624 t (fifo f ([], [])).2 (fun y hy => by
    rcases fifo_open f [] [] y hy with q | ⟨x, hx, e⟩
    · cases q
    · have := (hall x hx).2.1; omega)
  unfold spansF
  rw [cntS_app, h2, if_neg (by omega)]
  have e1 : cntS [] t = 0 := rfl
  have e2 : cntQ [] t = 0 := rfl
  rw [e1, e2] at h1
  omega
theorem spansF_len (f : List Jp) : ((spansF f).length : Int) ≤ mostZ f := by
  have := fifo_len f ([], [])
  unfold spansF
  rw [List.length_append, List.length_map]
  simp only [List.length_nil] at this
  omega

set_option maxRecDepth 100000 in
theorem most_any (f : List Jp) (A : Option Addr) (c : Nat) (w : World) (hs : Src encJ 2 w (fun _ => False) A f) (hm : stepMayB f = true) :
    Calls Tryz.prog 20 #[.slice A f.length c] w fun e w' => e = .returned (.int .i64 (mostZ f)) ∧ Kept (fun _ => False) w w' := by
  obtain ⟨hl, hp, hall⟩ := may_all hm
  have hb := fun i => mostZ_bound (f.take i) (fun x hx => (hall x (List.mem_of_mem_take hx)).2.2.2.2)
  have HB := Lib.hid hb
  obtain ⟨NF, hNF⟩ : ∃ NF, f.length = NF := ⟨_, rfl⟩
  have HNF := Lib.hid hNF
  rw [hNF] at hl ⊢
  clear hb hp hm hNF
  go_enter Tryz.func20, Tryz.ntmps20
  go_wp2_with fail
  go_loopg [3, 8] NF (fun k nv iv wr => ∃ (i : Nat) (s : Int), i + k = NF ∧ iv = .int .i64 i ∧ nv = .int .i64 s ∧ Hid (s = mostZ (f.take i)) ∧ Hid (Kept (fun _ => False) w wr))
  case atStart => exact ⟨0, 0, by omega, rfl, rfl, rfl, Kept.refl _ w⟩
  case round =>
    obtain ⟨i, s, hk, rfl, rfl, HS, HK⟩ := hrel
    have hb0 := HB.out i
    rw [← HS.out, List.length_take, HNF.out] at hb0
    have hp0 := mostZ_pos (f.take i)
    rw [← HS.out] at hp0
    by_cases hlt : i < NF
    · obtain ⟨x, hx⟩ : ∃ x, f[i]? = some x := ⟨f[i]'(by rw [HNF.out]; exact hlt), List.getElem?_eq_getElem _⟩
      obtain ⟨b, off, rfl, _, x0, x1⟩ := (hs.same HK.out).cells2 hx
      have hxb := (hall x (List.mem_of_getElem? hx)).2.2
      have htk : mostZ (f.take (i + 1)) = s + max x.n 0 := by
        rw [List.take_add_one, hx, mostZ_app, ← HS.out]
        show s + (max x.n 0 + 0) = _
        omega
      have HTK := Lib.hid htk
      obtain ⟨mx, hmx⟩ : ∃ mx, max x.n 0 = mx := ⟨_, rfl⟩
      have hmb : 0 ≤ mx ∧ mx ≤ 1048576 := by omega
      have HMX := Lib.hid hmx
      have HK2 := Lib.hid (HK.out.trans ((Kept.refl (fun _ => False) wr).alloc (.cells #[.int .i64 x.a, .int .i64 x.n] 80)))
      clear htk hx
      go_wp2_with fail
      go_roundg (NF - (i + 1))
      case measure => omega
      case rel => exact ⟨i + 1, s + mx, by omega, rfl, rfl, by unfold Hid; rw [HTK.out, HMX.out], HK2⟩
    · have hi : i = f.length := by rw [HNF.out]; omega
      have hsf := HS.out
      rw [hi, List.take_length] at hsf
      have HSF := Lib.hid hsf
      clear hsf hi
      go_wp2_with fail
      go_ret
      exact ⟨(by have e := HSF.out; subst e; rfl), HK.out⟩
end Go.Proofs.YthkeigljiinlbaaGreat
