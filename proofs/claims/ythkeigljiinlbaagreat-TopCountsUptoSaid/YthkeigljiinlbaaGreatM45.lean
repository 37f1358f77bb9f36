/- counted. -/
import Derived.Test.YthkeigljiinlbaaGreatM44
import Derived.Test.YthkeigljiinlbaaGreatM14
namespace Go.Proofs.YthkeigljiinlbaaGreat
open Go.RowKit

theorem EdS.two {w : World} {b : Nat} {B1 B2 : Option Addr} {d1 d2 : Nat} {x y : Ed} {T : TypeId} (h : w.heap[b]? = some (.cells #[.slice B1 x.r.length d1, .int .i64 x.a, .int .i64 x.n, .slice B2 y.r.length d2, .int .i64 y.a, .int .i64 y.n] T (0, 0)))
    (h1 : (B1 = none → x.r = [] ∧ d1 = 0) ∧ Src encW 3 w (fun _ => False) B1 x.r ∧ x.r.length ≤ 1048576) (h2 : (B2 = none → y.r = [] ∧ d2 = 0) ∧ Src encW 3 w (fun _ => False) B2 y.r ∧ y.r.length ≤ 1048576) : EdS w (fun _ => False) (some ⟨b, 0, none⟩) [x, y] := by
  intro i z hi
  have c := fun j => cell_of_row w b j _ _ _ h
  match i, hi with
  | 0, hi =>
    injection hi with hi
    subst hi
    exact ⟨b, 0, B1, d1, rfl, fun q => q, by simpa using c 0, by simpa using c 1, by simpa using c 2, h1.1, h1.2.1, h1.2.2⟩
  | 1, hi =>
    injection hi with hi
    subst hi
    exact ⟨b, 0, B2, d2, rfl, fun q => q, by simpa using c 3, by simpa using c 4, by simpa using c 5, h2.1, h2.2.1, h2.2.2⟩
  | i + 2, hi => cases hi

set_option maxHeartbeats 2000000 in
set_option maxRecDepth 100000 in
theorem counted_any (w : World) : Calls Tryz.prog 4 #[] w fun e w' => e = .returned (.bool true) ∧ Kept (fun _ => False) w w' := by
  have hf := fun wx => five_any wx
  have hc := fun wx => cols_any wx
  go_enter Tryz.func4, Tryz.ntmps4
  go_wp2_with fail
  refine (hf _).mono ?_
  rintro e w1 ⟨B1, rfl, hs1, k1⟩
  go_wp2_with fail
  refine (hf _).mono ?_
  rintro e w2 ⟨B2, rfl, hs2, k2⟩
  have hs1' := hs1.same k2
  have ke := (Kept.refl (fun _ => False) w2).alloc (.cells #[.slice (some ⟨B1, 0, none⟩) 1 1, .int .i64 2, .int .i64 1, .slice (some ⟨B2, 0, none⟩) 1 1, .int .i64 9, .int .i64 (-1)] 50)
  have ge := heap_alloc_new w2 (.cells #[.slice (some ⟨B1, 0, none⟩) 1 1, .int .i64 2, .int .i64 1, .slice (some ⟨B2, 0, none⟩) 1 1, .int .i64 9, .int .i64 (-1)] 50)
  have hE : EdS (w2.alloc (.cells #[.slice (some ⟨B1, 0, none⟩) 1 1, .int .i64 2, .int .i64 1, .slice (some ⟨B2, 0, none⟩) 1 1, .int .i64 9, .int .i64 (-1)] 50)) (fun _ => False) (some ⟨w2.heap.size, 0, none⟩) L0 :=
    EdS.two (x := ⟨numW 5, 2, 1⟩) (y := ⟨numW 5, 9, -1⟩) ge ⟨(fun q => by cases q), hs1'.same ke, by decide⟩ ⟨(fun q => by cases q), hs2.same ke, by decide⟩
  have K2 := Lib.hid ((k1.trans k2).trans ke)
  have HE := Lib.hid hE
  clear k1 k2 ke ge hE hs1 hs2 hs1'
  go_wp2_with fail
  refine (hc _).mono ?_
  rintro e w3 ⟨B3, rfl, hs3, k3⟩
  have ka := (Kept.refl (fun _ => False) w3).alloc (.cells #[.int .i64 1, .int .i64 0, .string ⟨⟨[110]⟩⟩] 32)
  have hA : Src encA 3 (w3.alloc (.cells #[.int .i64 1, .int .i64 0, .string ⟨⟨[110]⟩⟩] 32)) (fun _ => False) (some ⟨w3.heap.size, 0, none⟩) A1 := Src.one (heap_alloc_new w3 _) (fun q => q)
  have hrw := rows_any L0 (some ⟨w2.heap.size, 0, none⟩) (some ⟨B3, 0, none⟩) (some ⟨w3.heap.size, 0, none⟩) 2 1 1 _ (by decide) (HE.out.same (k3.trans ka)) (hs3.same ka) hA (fun x hx u hu => by
    simp only [List.mem_cons, List.not_mem_nil, or_false] at hx
    rcases hx with rfl | rfl <;> (simp only [numW, List.mem_singleton] at hu; subst hu; exact ⟨by decide, by decide⟩))
  have K3 := Lib.hid (K2.out.trans (k3.trans ka))
  have hlen0 : L0.length = 2 := rfl
  rw [hlen0] at hrw
  clear k3 ka hA hs3 hlen0
  go_wp2_with fail
  refine hrw.mono ?_
  rintro e w4 ⟨v4, k4, rfl, hres⟩
  rcases hres with ⟨rfl, _, M', hE4, hRO⟩ | ⟨_, _, _, hbad⟩
  · have hX := counted_law hRO
    have hml : M'.length = 2 := by
      have := congrArg List.length hX
      rw [List.length_map] at this
      exact this
    obtain ⟨A4, c4, rfl, _, hs4⟩ := hE4.eds (fun p hp => by
      have h1 : p.2 ∈ M'.map Prod.snd := List.mem_map.2 ⟨p, hp, rfl⟩
      rw [hX] at h1
      simp only [List.mem_cons, List.not_mem_nil, or_false] at h1
      rcases h1 with e | e <;> rw [e] <;> decide)
    rw [hX] at hs4
    obtain ⟨b, off, B, d, rfl, _, x0, x1, x2, _, hsr, _⟩ := hs4 0 _ rfl
    obtain ⟨b', off', B', d', e9, _, y0, y1, y2, _, _, _⟩ := hs4 1 _ rfl
    injection e9 with e9
    injection e9 with e91 e92
    subst e91 e92
    obtain ⟨br, or_, rfl, _, r0, r1, r2⟩ := hsr.cells3 (i := 0) (o := ⟨1, 1, []⟩) rfl
    simp only [Nat.zero_mul, Nat.add_zero, Nat.one_mul] at x0 x1 x2 y0 y1 y2 r0 r1 r2
    rw [hml]
    have hnl : (numW 1).length = 1 := rfl
    rw [hnl] at x0 y0
    have KF := Lib.hid (K3.out.trans hE4.kept)
    clear hnl hs4 hsr hE4 hRO hX hml hrw
    go_wp2_with fail
    go_ret
    exact ⟨rfl, KF.out⟩
  · exfalso
    rcases hbad with h | ⟨t, ht⟩
    · rw [L0_ok] at h; cases h
    · rw [L0_cnt] at ht
      by_cases h2 : 2 ≤ t ∧ t < 9
      · rw [if_pos h2] at ht; exact absurd ht (by decide)
      · rw [if_neg h2] at ht; exact absurd ht (by decide)
end Go.Proofs.YthkeigljiinlbaaGreat

/- TopCounts. -/
namespace Go.Proofs.YthkeigljiinlbaaGreat
open Go.RowKit

theorem cntS_snoc (S : List (Int × Int)) (p : Int × Int) (t : Int) : cntS (S ++ [p]) t = cntS S t + (if p.1 ≤ t ∧ t < p.2 then 1 else 0) := by
  rw [cntS_app]
  congr 1
  unfold cntS
  rw [List.map_singleton, List.sum_singleton]
theorem val01 {L X : List Ed} (h : RowsOk L X) (r : List Wd) (t : Int) (ht : t < 1125899906842624) : (valE X r t = 0) ∨ (valE X r t = 1 ∧ r = numW (cntE L t)) := by
  rw [h.val r t ht]
  by_cases hc : 0 ≤ t ∧ 0 < cntE L t ∧ r = numW (cntE L t)
  · rw [if_pos hc]; exact .inr ⟨rfl, hc.2.2⟩
  · rw [if_neg hc]; exact .inl rfl

set_option maxHeartbeats 8000000 in
set_option maxRecDepth 100000 in
theorem top_any (L : List Ed) (A : Option Addr) (c : Nat) (t : Int) (w : World) (hLl : L.length ≤ 1048576) (hL : EdS w (fun _ => False) A L) (hI : ∀ x ∈ L, ∀ u ∈ x.r, I64 u.n) (hrl : ∀ x ∈ L, x.r.length ≤ 1048576) :
    Calls Tryz.prog 3 #[.slice A L.length c, .int .i64 t] w fun e w' => e = .returned (.bool true) ∧ Kept (fun _ => False) w w' := by
  have hcn := fun wx => counted_any wx
  obtain ⟨NL, hNL⟩ : ∃ NL, L.length = NL := ⟨_, rfl⟩
  have HNL := Lib.hid hNL
  by_cases h200 : 200 < NL
  · have d1 : decide ((200 : Int) < (NL : Int)) = true := by simp; omega
    rw [hNL]
    clear hNL hL hI hrl
    go_enter Tryz.func3, Tryz.ntmps3
    go_wp2_with fail
    refine (hcn _).mono ?_
    rintro e w1 ⟨rfl, k1⟩
    go_wp2_with fail
    go_ret
    exact ⟨rfl, k1⟩
  have d1 : decide ((200 : Int) < (NL : Int)) = false := by simp; omega
  by_cases ht0 : t < 0
  · have d2 : decide (t < (0 : Int)) = true := by simpa using ht0
    rw [hNL]
    clear hNL hL hI hrl
    go_enter Tryz.func3, Tryz.ntmps3
    go_wp2_with fail
    refine (hcn _).mono ?_
    rintro e w1 ⟨rfl, k1⟩
    go_wp2_with fail
    go_ret
    exact ⟨rfl, k1⟩
  have d2 : decide (t < (0 : Int)) = false := by simpa using ht0
  by_cases ht1 : (1125899906842624 : Int) ≤ t
  · have d3 : decide ((1125899906842624 : Int) ≤ t) = true := by simpa using ht1
    rw [hNL]
    clear hNL hL hI hrl
    go_enter Tryz.func3, Tryz.ntmps3
    go_wp2_with fail
    refine (hcn _).mono ?_
    rintro e w1 ⟨rfl, k1⟩
    go_wp2_with fail
    go_ret
    exact ⟨rfl, k1⟩
  have d3 : decide ((1125899906842624 : Int) ≤ t) = false := by simpa using ht1
  have hc := fun wx => cols_any wx
  have hrw := fun B D wx h1 h2 h3 => rows_any L A (some ⟨B, 0, none⟩) (some ⟨D, 0, none⟩) c 1 1 wx (by omega) h1 h2 h3 hI
  have hpc := fun wx h1 => pieces_any L A c wx (by omega) h1 hrl
  rw [hNL] at hrw hpc ⊢
  have HL := Lib.hid hL
  clear hNL hL hI hrl
  go_enter Tryz.func3, Tryz.ntmps3
  go_wp2_with fail
  refine (hc _).mono ?_
  rintro e w3 ⟨B3, rfl, hs3, k3⟩
  have ka := (Kept.refl (fun _ => False) w3).alloc (.cells #[.int .i64 1, .int .i64 0, .string ⟨⟨[110]⟩⟩] 32)
  have hA : Src encA 3 (w3.alloc (.cells #[.int .i64 1, .int .i64 0, .string ⟨⟨[110]⟩⟩] 32)) (fun _ => False) (some ⟨w3.heap.size, 0, none⟩) A1 := Src.one (heap_alloc_new w3 _) (fun q => q)
  have K3 := Lib.hid (k3.trans ka)
  have hrw1 := hrw B3 w3.heap.size _ (HL.out.same K3.out) (hs3.same ka) hA
  clear k3 ka hA hs3 hrw hc
  go_wp2_with fail
  refine hrw1.mono ?_
  rintro e w4 ⟨v4, k4, rfl, hres⟩
  have hk4 : Kept (fun _ => False) w w4 := by
    rcases hres with ⟨_, _, M', hE4, _⟩ | ⟨_, _, hk, _⟩
    · exact K3.out.trans hE4.kept
    · exact K3.out.trans hk
  have hpc1 := hpc w4 (HL.out.same hk4)
  clear hrw1 hpc
  rcases hres with ⟨rfl, hok, M', hE4, hRO⟩ | ⟨hk, rfl, _, _⟩
  · obtain ⟨Ax, cx, rfl, _, hsx⟩ := hE4.eds (fun p hp => by
      have := hRO.one p.2 (List.mem_map.2 ⟨p, hp, rfl⟩)
      rw [this.len]; decide)
    obtain ⟨X, hX⟩ : ∃ X, M'.map Prod.snd = X := ⟨_, rfl⟩
    have hXl : M'.length = X.length := by rw [← hX, List.length_map]
    rw [hX] at hsx hRO
    rw [hXl]
    obtain ⟨NX, hNX⟩ : ∃ NX, X.length = NX := ⟨_, rfl⟩
    have HNX := Lib.hid hNX
    have hNXl : NX ≤ 402 := by have := hRO.len; omega
    rw [hNX]
    have HSX := Lib.hid hsx
    have HRO := Lib.hid hRO
    have HK4 := Lib.hid hk4
    clear hsx hRO hE4 hX hXl hNX hk4 hok
    go_wp2_with fail
    refine hpc1.mono ?_
    rintro e w5 ⟨v5, k5, rfl, hk5, hres5⟩
    have HK5 := Lib.hid hk5
    rcases hres5 with ⟨rfl, P, hP, hPl, hcnt⟩ | hkn
    · obtain ⟨Ap, cp, rfl, _, hsp⟩ := hP.asSrc encPc_len
      obtain ⟨NP, hNP⟩ : ∃ NP, P.length = NP := ⟨_, rfl⟩
      have HNP := Lib.hid hNP
      rw [hNP] at hPl ⊢
      have HSP := Lib.hid hsp
      have HCNT := Lib.hid (hcnt t (by omega))
      clear hP hsp hNP hcnt hk5 hpc1
      go_wp2_with fail
      go_loopg [9, 10] NP (fun k nv iv wr => ∃ (i : Nat) (n : Int), i + k = NP ∧ iv = .int .i64 i ∧ nv = .int .i64 n ∧ Hid (n = cntS ((P.take i).map PPc.sp) t) ∧ 0 ≤ n ∧ n ≤ i ∧ w5 = wr)
      case atStart => exact ⟨0, 0, by omega, rfl, rfl, rfl, Int.le_refl _, by omega, rfl⟩
      case round =>
        obtain ⟨i, n, hk, rfl, rfl, HN, hn0, hni, rfl⟩ := hrel
        by_cases hlt : i < NP
        · obtain ⟨p, hp⟩ : ∃ p, P[i]? = some p := ⟨P[i]'(by rw [HNP.out]; exact hlt), List.getElem?_eq_getElem _⟩
          obtain ⟨b, off, rfl, _, hcc⟩ := HSP.out i p hp
          have x1 := hcc 1 _ rfl
          have x2 := hcc 2 _ rfl
          have htk : cntS ((P.take (i + 1)).map PPc.sp) t = n + (if p.f ≤ t ∧ t < p.u then 1 else 0) := by
            rw [List.take_add_one, hp, List.map_append]
            show cntS (_ ++ [p.sp]) t = _
            rw [cntS_snoc, ← HN.out]; rfl
          obtain ⟨ra, rc, r, pf, pu⟩ := p
          simp only at x1 x2 htk
          have HTK := Lib.hid htk
          clear htk hcc hp HN
          by_cases q1 : pf ≤ t
          · have e1 : decide (pf ≤ t) = true := by simpa using q1
            by_cases q2 : t < pu
            · have e2 : decide (t < pu) = true := by simpa using q2
              have HT2 : Hid (n + 1 = cntS ((P.take (i + 1)).map PPc.sp) t) := by unfold Hid; rw [HTK.out, if_pos ⟨q1, q2⟩]
              clear HTK q1 q2
              go_wp2_with fail
              go_roundg (NP - (i + 1))
              case measure => omega
              case rel => exact ⟨i + 1, n + 1, by omega, rfl, rfl, HT2, by omega, by omega, rfl⟩
            · have e2 : decide (t < pu) = false := by simpa using q2
              have HT2 : Hid (n = cntS ((P.take (i + 1)).map PPc.sp) t) := by unfold Hid; rw [HTK.out, if_neg (fun q => q2 q.2), Int.add_zero]
              clear HTK q1 q2
              go_wp2_with fail
              go_roundg (NP - (i + 1))
              case measure => omega
              case rel => exact ⟨i + 1, n, by omega, rfl, rfl, HT2, by omega, by omega, rfl⟩
          · have e1 : decide (pf ≤ t) = false := by simpa using q1
            have HT2 : Hid (n = cntS ((P.take (i + 1)).map PPc.sp) t) := by unfold Hid; rw [HTK.out, if_neg (fun q => q1 q.1), Int.add_zero]
            clear HTK q1
            go_wp2_with fail
            go_roundg (NP - (i + 1))
            case measure => omega
            case rel => exact ⟨i + 1, n, by omega, rfl, rfl, HT2, by omega, by omega, rfl⟩
        · have hi : i = P.length := by rw [HNP.out]; omega
          have hn := HN.out
          rw [hi, List.take_length, HCNT.out] at hn
          have HNN := Lib.hid hn
          have hnL : n = cntE L t := hn
          clear hi HN
          have hone : Src encW 3 (w5.alloc (.cells #[.int .i64 1, .int .i64 n, .string ⟨⟨[]⟩⟩] 48)) (fun _ => False) (some ⟨w5.heap.size, 0, none⟩) (numW n) := Src.one (heap_alloc_new w5 _) (fun q => q)
          have HONE := Lib.hid hone
          have k6 := (Kept.refl (fun _ => False) w5).alloc (.cells #[.int .i64 1, .int .i64 n, .string ⟨⟨[]⟩⟩] 48)
          have HS6 := Lib.hid (HSX.out.same (HK5.out.trans k6))
          have HK6 := Lib.hid ((HK4.out.trans HK5.out).trans k6)
          clear hn hone k6 hnL
          go_wp2_with fail
          go_loopg [12, 13] NX (fun k sv iv wr => ∃ (i : Nat) (s : Int), i + k = NX ∧ iv = .int .i64 i ∧ sv = .int .i64 s ∧ Hid (s = toldL (fun r => valE X r t) none (X.take i)) ∧ 0 ≤ s ∧ s ≤ i ∧ Hid (Kept (fun _ => False) (w5.alloc (.cells #[.int .i64 1, .int .i64 n, .string ⟨⟨[]⟩⟩] 48)) wr))
          case atStart => exact ⟨0, 0, by omega, rfl, rfl, rfl, Int.le_refl _, by omega, Kept.refl _ _⟩
          case round =>
            obtain ⟨i, s, hk, rfl, rfl, HT, hs0, hsi, HK⟩ := hrel
            obtain ⟨wq, rfl⟩ : ∃ wq, wq = wr := ⟨_, rfl⟩
            have hXq := HS6.out.same HK.out
            by_cases hlt2 : i < NX
            · obtain ⟨x, hx⟩ : ∃ x, X[i]? = some x := ⟨X[i]'(by rw [HNX.out]; exact hlt2), List.getElem?_eq_getElem _⟩
              have hsn := told_snoc (fun r => valE X r t) X i x none hx
              rw [← HT.out] at hsn
              obtain ⟨tx, htx⟩ := HRO.out.rows x (List.mem_of_getElem? hx)
              obtain ⟨m, hme⟩ : ∃ m, cntE L tx = m := ⟨_, rfl⟩
              rw [hme] at htx
              obtain ⟨b, off, B, d, rfl, _, x0, _, _, _, hrq, _⟩ := hXq i x hx
              obtain ⟨xr, xa, xn⟩ := x
              simp only at htx x0 hrq hsn
              subst htx
              obtain ⟨br, or_, rfl, _, r0, r1, r2⟩ := hrq.cells3 (i := 0) (o := ⟨1, m, []⟩) rfl
              have hn1 : (numW m).length = 1 := rfl
              rw [hn1] at x0
              simp only [Nat.zero_mul, Nat.add_zero] at r0 r1 r2
              have hjm := fun wz h1 h2 => jumps_any X (numW m) (some ⟨b, off, none⟩) (some ⟨br, or_, none⟩) cx d wz h1 h2 HRO.out.may HRO.out.one (numW_one m)
              rw [HNX.out, hn1] at hjm
              have hv01 := val01 HRO.out (numW m) t (by omega)
              clear hme hn1
              cases i with
              | zero =>
                have HSN : Hid (toldL (fun r => valE X r t) none (X.take (0 + 1)) = s + valE X (numW m) t) := by
                  unfold Hid
                  rw [hsn, if_pos rfl, if_neg (fun q => by cases q)]
                clear hsn hx
                simp only [Nat.zero_mul, Nat.add_zero] at x0
                go_wp2_with fail
                go_quiet (fail)
                go_wp2_with fail
                refine (hjm _ (hXq.same (drew_kept wq nq)) (hrq.same (drew_kept wq nq))).mono ?_
                rintro e w7 ⟨v7, f7, rfl, hr7, hm7, hval7, hk7⟩
                obtain ⟨A7, c7, rfl, _, hs7⟩ := hr7.asSrc encJ_len
                have hat := at_any f7 A7 c7 t w7 hs7 hm7
                rw [hval7 t] at hat
                have kq7 := (drew_kept wq nq).trans hk7
                have HKQ := Lib.hid kq7
                have z0 := kq7.cell x0 (fun q => q)
                have z1 := kq7.cell r1 (fun q => q)
                rcases hv01 with hv | ⟨hv, hmn⟩
                · rw [hv] at hat HSN
                  clear hr7 hs7 hval7 hk7 kq7 z0 z1 hv
                  go_wp2_with fail
                  refine hat.mono ?_
                  rintro e w8 ⟨rfl, k8⟩
                  have HK8 := Lib.hid (HK.out.trans (HKQ.out.trans k8))
                  clear k8 hat
                  go_wp2_with fail
                  go_roundg (NX - (0 + 1))
                  case measure => omega
                  case rel => exact ⟨0 + 1, s, by omega, (by first | rfl | exact int_eq (by omega)), rfl, by unfold Hid; rw [HSN.out, Int.add_zero], hs0, by omega, HK8⟩
                · have hmm : m = n := by rw [HNN.out]; exact numW_inj hmn
                  rw [hv] at hat HSN
                  subst hmm
                  clear hr7 hs7 hval7 hk7 hv hmn
                  go_wp2_with fail
                  refine hat.mono ?_
                  rintro e w8 ⟨rfl, k8⟩
                  have y0 := k8.cell z0 (fun q => q)
                  have y1 := k8.cell z1 (fun q => q)
                  have HK8 := Lib.hid (HK.out.trans (HKQ.out.trans k8))
                  clear k8 hat kq7
                  go_wp2_with fail
                  go_roundg (NX - (0 + 1))
                  case measure => omega
                  case rel => exact ⟨0 + 1, s + 1, by omega, (by first | rfl | exact int_eq (by omega)), rfl, by unfold Hid; rw [HSN.out], by omega, by omega, HK8⟩
              | succ j =>
                obtain ⟨y, hy⟩ : ∃ y, X[j]? = some y := ⟨X[j]'(by rw [HNX.out]; omega), List.getElem?_eq_getElem _⟩
                obtain ⟨ty, hty⟩ := HRO.out.rows y (List.mem_of_getElem? hy)
                obtain ⟨m2, hme2⟩ : ∃ m2, cntE L ty = m2 := ⟨_, rfl⟩
                rw [hme2] at hty
                obtain ⟨b', off', B', d', e9, _, u0, _, _, _, hru, _⟩ := hXq j y hy
                injection e9 with e9
                injection e9 with e91 e92
                subst e91 e92
                have hprev : (if j + 1 = 0 then (none : Option (List Wd)) else (X[j + 1 - 1]?).map Ed.r) = some y.r := by
                  rw [if_neg (Nat.succ_ne_zero j), Nat.add_sub_cancel, hy]; rfl
                rw [hprev] at hsn
                obtain ⟨yr, ya, yn⟩ := y
                simp only at hty u0 hru hsn
                subst hty
                obtain ⟨br', or', rfl, _, q0, q1, q2⟩ := hru.cells3 (i := 0) (o := ⟨1, m2, []⟩) rfl
                have hn1 : (numW m2).length = 1 := rfl
                rw [hn1] at u0
                simp only [Nat.zero_mul, Nat.add_zero] at q0 q1 q2
                clear hme2 hn1 hprev hx hy hru
                by_cases hmm2 : m2 = m
                · subst hmm2
                  have HSN : Hid (s = toldL (fun r => valE X r t) none (X.take (j + 1 + 1))) := by
                    unfold Hid
                    rw [hsn, if_pos rfl, Int.add_zero]
                  clear hsn hjm hv01 hrq
                  go_wp2_with fail
                  go_quiet (fail)
                  go_wp2_with fail
                  go_roundg (NX - (j + 1 + 1))
                  case measure => omega
                  case rel => exact ⟨j + 1 + 1, s, by omega, (by first | rfl | exact int_eq (by omega)), rfl, HSN, hs0, by omega, HK.out.trans (drew_kept wq _)⟩
                · have hne : (m2 == m) = false := beq_eq_false_iff_ne.2 hmm2
                  have HSN : Hid (toldL (fun r => valE X r t) none (X.take (j + 1 + 1)) = s + valE X (numW m) t) := by
                    unfold Hid
                    rw [hsn, if_neg (fun q => hmm2 (numW_inj (by injection q)))]
                  clear hsn hmm2
                  go_wp2_with fail
                  go_quiet (fail)
                  go_wp2_with fail
                  refine (hjm _ (hXq.same (drew_kept wq nq)) (hrq.same (drew_kept wq nq))).mono ?_
                  rintro e w7 ⟨v7, f7, rfl, hr7, hm7, hval7, hk7⟩
                  obtain ⟨A7, c7, rfl, _, hs7⟩ := hr7.asSrc encJ_len
                  have hat := at_any f7 A7 c7 t w7 hs7 hm7
                  rw [hval7 t] at hat
                  have kq7 := (drew_kept wq nq).trans hk7
                  have HKQ := Lib.hid kq7
                  have z0 := kq7.cell x0 (fun q => q)
                  have z1 := kq7.cell r1 (fun q => q)
                  rcases hv01 with hv | ⟨hv, hmn⟩
                  · rw [hv] at hat HSN
                    clear hr7 hs7 hval7 hk7 kq7 z0 z1 hv
                    go_wp2_with fail
                    refine hat.mono ?_
                    rintro e w8 ⟨rfl, k8⟩
                    have HK8 := Lib.hid (HK.out.trans (HKQ.out.trans k8))
                    clear k8 hat
                    go_wp2_with fail
                    go_roundg (NX - ((j + 1) + 1))
                    case measure => omega
                    case rel => exact ⟨(j + 1) + 1, s, by omega, (by first | rfl | exact int_eq (by omega)), rfl, by unfold Hid; rw [HSN.out, Int.add_zero], hs0, by omega, HK8⟩
                  · have hmm : m = n := by rw [HNN.out]; exact numW_inj hmn
                    rw [hv] at hat HSN
                    subst hmm
                    clear hr7 hs7 hval7 hk7 hv hmn
                    go_wp2_with fail
                    refine hat.mono ?_
                    rintro e w8 ⟨rfl, k8⟩
                    have y0 := k8.cell z0 (fun q => q)
                    have y1 := k8.cell z1 (fun q => q)
                    have HK8 := Lib.hid (HK.out.trans (HKQ.out.trans k8))
                    clear k8 hat kq7
                    go_wp2_with fail
                    go_roundg (NX - ((j + 1) + 1))
                    case measure => omega
                    case rel => exact ⟨(j + 1) + 1, s + 1, by omega, (by first | rfl | exact int_eq (by omega)), rfl, by unfold Hid; rw [HSN.out], by omega, by omega, HK8⟩
            · have hi : i = X.length := by rw [HNX.out]; omega
              have hs := HT.out
              rw [hi, List.take_length, told_law HRO.out t (by omega) (by omega), ← HNN.out] at hs
              have hval1 : 0 < n → valE X (numW n) t = 1 := fun hp => by
                rw [HRO.out.val _ _ (by omega), if_pos ⟨by omega, by rw [← HNN.out]; exact hp, by rw [← HNN.out]⟩]
              have hone2 := HONE.out.same HK.out
              clear hi HT
              by_cases hz : n = 0
              · have hs1 : s = 0 := by rw [hs, if_neg (by omega)]
                have bz : (n == (0 : Int)) = true := by rw [hz]; rfl
                subst hs1
                have HKF := Lib.hid (HK6.out.trans HK.out)
                clear hs hval1 hone2 hXq hz
                go_wp2_with fail
                refine (hcn _).mono ?_
                rintro e w9 ⟨rfl, k9⟩
                go_wp2_with fail
                go_ret
                exact ⟨rfl, HKF.out.trans k9⟩
              · have hnp : 0 < n := by omega
                have hs1 : s = 1 := by rw [hs, if_pos hnp]
                have bz : (n == (0 : Int)) = false := beq_eq_false_iff_ne.2 hz
                have hv1 := hval1 hnp
                have hjv := fun wz h1 h2 => jumps_any X (numW n) Ax (some ⟨w5.heap.size, 0, none⟩) cx 1 wz h1 h2 HRO.out.may HRO.out.one (numW_one n)
                have hn1 : (numW n).length = 1 := rfl
                rw [HNX.out, hn1] at hjv
                subst hs1
                have HKF := Lib.hid (HK6.out.trans HK.out)
                have HV1 := Lib.hid hv1
                clear hs hval1 hv1 hz hn1
                go_wp2_with fail
                refine (hcn _).mono ?_
                rintro e w9 ⟨rfl, k9⟩
                have HK9 := Lib.hid k9
                have hx9 := hXq.same k9
                have ho9 := hone2.same k9
                clear k9
                go_wp2_with fail
                refine (hjv _ hx9 ho9).mono ?_
                rintro e w7 ⟨v7, f7, rfl, hr7, hm7, hval7, hk7⟩
                obtain ⟨A7, c7, rfl, _, hs7⟩ := hr7.asSrc encJ_len
                have hat := at_any f7 A7 c7 t w7 hs7 hm7
                rw [hval7 t, HV1.out] at hat
                have HK7 := Lib.hid hk7
                clear hr7 hs7 hval7 hk7
                go_wp2_with fail
                refine hat.mono ?_
                rintro e w8 ⟨rfl, k8⟩
                have HK8 := Lib.hid k8
                clear k8 hat
                go_wp2_with fail
                go_ret
                exact ⟨rfl, ((HKF.out.trans HK9.out).trans HK7.out).trans HK8.out⟩
    · have hk7 : (k5 != 0) = true := by simpa using hkn
      clear hpc1 hk5
      go_wp2_with fail
      refine (hcn _).mono ?_
      rintro e w6 ⟨rfl, k6⟩
      go_wp2_with fail
      go_ret
      exact ⟨rfl, (HK4.out.trans HK5.out).trans k6⟩
  · have hk7 : (k4 != 0) = true := by simpa using hk
    have HK4 := Lib.hid hk4
    clear hk4
    go_wp2_with fail
    refine hpc1.mono ?_
    rintro e w5 ⟨v5, k5, rfl, hk5, _⟩
    have HK5 := Lib.hid hk5
    clear hk5 hpc1
    go_wp2_with fail
    refine (hcn _).mono ?_
    rintro e w6 ⟨rfl, k6⟩
    go_wp2_with fail
    go_ret
    exact ⟨rfl, (HK4.out.trans HK5.out).trans k6⟩
end Go.Proofs.YthkeigljiinlbaaGreat
