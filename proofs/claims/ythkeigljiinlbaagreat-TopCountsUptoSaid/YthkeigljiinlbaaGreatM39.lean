/- plan.one: the row of a part. -/
import Derived.Test.YthkeigljiinlbaaGreatM38
namespace Go.Proofs.YthkeigljiinlbaaGreat
open Go.RowKit Go.MapKept

/-- A row of one number that fits its bits. -/
def One64 (r : List Wd) : Prop := ∃ x : Int, I64 x ∧ r = [⟨1, x, []⟩]
/-- What a part holds that may be counted. -/
def CopOk (p : PCop) : Prop := One64 p.r ∧ 0 < p.n ∧ p.n ≤ 1099511627776
theorem tot_app (a b : List (List Wd × Int)) : totL (a ++ b) = totL a + totL b := by
  unfold totL; rw [List.map_append, List.sum_append]
theorem tot_take_le : ∀ (M : List PCop), (∀ p ∈ M, CopOk p) → ∀ i, 0 ≤ totL ((M.take i).map PCop.ab) ∧ totL ((M.take i).map PCop.ab) ≤ totL (M.map PCop.ab)
  | [], _, i => by simp [totL]
  | p :: M, h, 0 => by
    have h1 := tot_take_le M (fun q hq => h q (List.mem_cons_of_mem _ hq)) M.length
    rw [List.take_length] at h1
    have h2 := (h p (List.mem_cons_self ..)).2.1
    have e : totL ((p :: M).map PCop.ab) = p.n + totL (M.map PCop.ab) := rfl
    rw [e]
    simp only [List.take_zero, List.map_nil]
    show (0 : Int) ≤ 0 ∧ (0 : Int) ≤ _
    omega
  | p :: M, h, i + 1 => by
    have h1 := tot_take_le M (fun q hq => h q (List.mem_cons_of_mem _ hq)) i
    have h2 := (h p (List.mem_cons_self ..)).2.1
    have e : totL ((p :: M).map PCop.ab) = p.n + totL (M.map PCop.ab) := rfl
    have e2 : totL (((p :: M).take (i + 1)).map PCop.ab) = p.n + totL ((M.take i).map PCop.ab) := rfl
    rw [e, e2]
    omega

set_option maxHeartbeats 4000000 in
set_option maxRecDepth 100000 in
theorem one_any (As Aa Av : Option Addr) (cs ca cv : Nat) (q : PPart) (w : World) (hs : Src encC 2 w (fun _ => False) As S1) (ha : Src encA 3 w (fun _ => False) Aa A1) (hv : Av = none → cv = 0) (hq : CpS w q.v q.l) (hok : ∀ p ∈ q.l, CopOk p) (hne : q.l ≠ []) (hl : q.l.length ≤ 4096) :
    Calls Tryz.prog 42 #[.agg #[.slice As 1 cs, .slice Aa 1 ca, .int .i64 1, .int .i64 0, .int .i64 0, .int .i64 0, .int .i64 0], .slice Av 0 cv, .agg #[.int .i64 q.s, .int .i64 q.t, .slice q.ca q.l.length q.cc]] w fun e w' =>
      ∃ (v : Value) (k : Int), e = .returned (.tuple #[v, .int .i64 k]) ∧ ((k = 0 ∧ totL (q.l.map PCop.ab) ≤ 1048576 ∧ New encW 3 48 w w' v (numW (totL (q.l.map PCop.ab)))) ∨ (k ≠ 0 ∧ v = .slice none 0 0 ∧ 1048576 < totL (q.l.map PCop.ab) ∧ Kept (fun _ => False) w w')) := by
  obtain ⟨s, t, qa, qc, l⟩ := q
  simp only [PPart.v] at *
  obtain ⟨T, hTT⟩ : ∃ T, totL (l.map PCop.ab) = T := ⟨_, rfl⟩
  have HTT := Lib.hid hTT
  rw [hTT]
  have htp : 0 < T := by
    rw [← hTT]
    cases l with
    | nil => exact absurd rfl hne
    | cons p l =>
      have h1 := (hok p (List.mem_cons_self ..)).2.1
      have h2 := tot_take_le l (fun q hq => hok q (List.mem_cons_of_mem _ hq)) l.length
      rw [List.take_length] at h2
      have e : totL ((p :: l).map PCop.ab) = p.n + totL (l.map PCop.ab) := rfl
      omega
  obtain ⟨NL, hNL⟩ : ∃ NL, l.length = NL := ⟨_, rfl⟩
  have HNL := Lib.hid hNL
  rw [hNL] at hl ⊢
  have k0 := ((Kept.refl (fun _ => False) w).alloc (.cells #[.slice As 1 cs, .slice Aa 1 ca, .int .i64 1, .int .i64 0, .int .i64 0, .int .i64 0, .int .i64 0] 62)).alloc (.cells #[.int .i64 s, .int .i64 t, .slice qa NL qc] 109)
  have a1 := heap_alloc_new (w.alloc (.cells #[.slice As 1 cs, .slice Aa 1 ca, .int .i64 1, .int .i64 0, .int .i64 0, .int .i64 0, .int .i64 0] 62)) (.cells #[.int .i64 s, .int .i64 t, .slice qa NL qc] 109)
  rw [World.size_alloc] at a1
  have hnw := fun wx h1 h2 => tnew_any As Aa cs ca wx h1 h2
  have hcp := fun wx => rcopy_any [] Av cv wx (fun e => ⟨rfl, hv e⟩) Src.nil (by simp)
  rw [show ([] : List Wd).length = 0 from rfl] at hcp
  obtain ⟨W0, hW0⟩ : ∃ W0, ((w.alloc (.cells #[.slice As 1 cs, .slice Aa 1 ca, .int .i64 1, .int .i64 0, .int .i64 0, .int .i64 0, .int .i64 0] 62)).alloc (.cells #[.int .i64 s, .int .i64 t, .slice qa NL qc] 109)) = W0 := ⟨_, rfl⟩
  have HW0 := Lib.hid hW0
  have HK0 := Lib.hid (show Kept (fun _ => False) w W0 from hW0 ▸ k0)
  have HA0 := Lib.hid (show W0.heap[w.heap.size + 1]? = some (.cells #[.int .i64 s, .int .i64 t, .slice qa NL qc] 109 (0, 0)) from hW0 ▸ a1)
  clear hW0
  have HQ := Lib.hid hq
  have HOK := Lib.hid hok
  clear hq hok hne hTT hNL hv
  go_enter Tryz.func42, Tryz.ntmps42
  go_wp2_with fail
  refine (hnw _ (hs.same k0) (ha.same k0)).mono ?_
  rintro e w1 ⟨tb, As2, Aa2, Ap2, cs2, ca2, cp2, mb, cb, es0, ck0, rfl, hT0⟩
  have k1 := k0.trans hT0.kept
  have a1' := hT0.kept.heap a1 (fun q => q)
  have p0 := cell_of_row _ _ 0 _ _ _ a1'
  have p2 := cell_of_row _ _ 2 _ _ _ a1'
  simp only [List.getElem?_toArray, List.getElem?_cons_zero, List.getElem?_cons_succ] at p0 p2
  have HT0 := Lib.hid hT0
  rw [HW0.out] at HT0
  clear hT0 k0 a1 k1 a1' hs ha hnw
  go_wp2_with fail
  go_loopg [29] NL (fun k iv wr => ∃ (i : Nat) (es : Array MapEntry) (ck : Nat), i + k = NL ∧ iv = .int .i64 i ∧ Hid (Tal W0 wr tb (totL ((l.take i).map PCop.ab)) As2 Aa2 Ap2 cs2 ca2 cp2 mb cb es ck))
  case atStart => exact ⟨0, es0, ck0, by omega, rfl, HT0⟩
  case round =>
    obtain ⟨i, es, ck, hk, rfl, HT⟩ := hrel
    obtain ⟨wo, rfl⟩ : ∃ wo, wo = wr := ⟨_, rfl⟩
    have hT := HT.out
    have kw := HK0.out.trans hT.kept
    by_cases hlt : i < NL
    · obtain ⟨p, hp⟩ : ∃ p, l[i]? = some p := ⟨l[i]'(by rw [HNL.out]; exact hlt), List.getElem?_eq_getElem _⟩
      have hpm := List.mem_of_getElem? hp
      obtain ⟨⟨x, hx, hr⟩, hn1, hn2⟩ := HOK.out p hpm
      have hrow := HQ.out.rows p hpm
      have htk : totL ((l.take (i + 1)).map PCop.ab) = totL ((l.take i).map PCop.ab) + p.n := by
        rw [List.take_add_one, hp, List.map_append, tot_app]
        show _ + (p.n + 0) = _
        omega
      have hle := tot_take_le l HOK.out (i + 1)
      rw [HTT.out, htk] at hle
      have hge := (tot_take_le l HOK.out i).1
      obtain ⟨qa', qc', eQ, _, hsQ⟩ := HQ.out.row.asSrc encCp_len
      injection eQ with e1 e3 e2
      subst e1 e2
      clear e3
      obtain ⟨b, off, rfl, _, hcc⟩ := hsQ i p hp
      obtain ⟨ra, rc, r, n⟩ := p
      simp only at hr hn1 hn2 hrow htk hle
      subst hr
      have x0 := kw.cell (hcc 0 _ rfl) (fun q => q)
      have x1 := kw.cell (hcc 1 _ rfl) (fun q => q)
      simp only [Nat.add_zero, List.length_cons, List.length_nil, Nat.zero_add] at x0 x1 hrow
      obtain ⟨c0, hc0⟩ : ∃ c0, totL ((l.take i).map PCop.ab) = c0 := ⟨_, rfl⟩
      rw [hc0] at hT htk hle hge
      have HTK := Lib.hid htk
      have kb := (Kept.refl (fun _ => False) wo).alloc (.cells #[.slice ra 1 rc, .int .i64 n] 154)
      have gb := heap_alloc_new wo (.cells #[.slice ra 1 rc, .int .i64 n] 154)
      have htl : tb < wo.heap.size := (Array.getElem?_eq_some_iff.1 hT.at_).1
      have hcl : cb < wo.heap.size := (Array.getElem?_eq_some_iff.1 hT.cnt).1
      have hml : mb < wo.heap.size := (Array.getElem?_eq_some_iff.1 hT.map.at_).1
      have hrW := hrow.same (kw.trans kb)
      obtain ⟨ra', rc', eR, _, _, hsR⟩ := hrW.src encW_len (TalB tb cb mb) (fun j hj q => by
        rcases q with q | q | q
        · exact hrW.other (kb.heap hT.at_ (fun q => q)) (by decide) (by rw [hj, q])
        · exact hrW.other (kb.heap hT.cnt (fun q => q)) (by decide) (by rw [hj, q])
        · exact hrW.otherMap (kb.heap hT.map.at_ (fun q => q)) (by rw [hj, q]))
      injection eR with e1 e3 e2
      subst e1 e2
      clear e3
      have hT2 : Tal W0 (wo.alloc (.cells #[.slice ra 1 rc, .int .i64 n] 154)) tb c0 As2 Aa2 Ap2 cs2 ca2 cp2 mb cb es ck := ⟨kb.heap hT.at_ (fun q => q), hT.sch.same kb, hT.agg.same kb, hT.part.same kb, kb.heap hT.cnt (fun q => q), hT.map.kept kb (fun q => q), hT.vals, hT.big, hT.rng, hT.kept.trans kb⟩
      have HT2 := Lib.hid hT2
      have HGB := Lib.hid gb
      have HSR := Lib.hid hsR
      clear hT hT2 gb hsR hrW hrow hcc hsQ kb kw hp hpm htk hc0
      obtain ⟨W2, hW2⟩ : ∃ W2, wo.alloc (.cells #[.slice ra 1 rc, .int .i64 n] 154) = W2 := ⟨_, rfl⟩
      have HW2 := Lib.hid hW2
      rw [hW2] at HT2 HGB HSR
      clear hW2
      go_wp2_with fail
      rw [HW2.out]
      go_loopg [12] n.toNat (fun k nv wr2 => ∃ (m : Int) (es2 : Array MapEntry) (ck2 : Nat), nv = .int .i64 m ∧ 0 ≤ m ∧ m.toNat = k ∧ m ≤ n ∧ Hid (Tal W0 wr2 tb (c0 + (n - m)) As2 Aa2 Ap2 cs2 ca2 cp2 mb cb es2 ck2) ∧ Hid (Kept (fun j => TalB tb cb mb j) W2 wr2))
      case atStart => exact ⟨n, es, ck, rfl, by omega, rfl, Int.le_refl _, by rw [Int.sub_self, Int.add_zero]; exact HT2, Kept.refl _ _⟩
      case round =>
        obtain ⟨m, es2, ck2, rfl, hm0, hmk, hmn, HT3, HK3⟩ := hrel
        by_cases hm1 : 0 < m
        · have hd : decide (0 < m) = true := by simpa using hm1
          obtain ⟨mm, hmm⟩ : ∃ mm, min m 1048576 = mm := ⟨_, rfl⟩
          have hmb : 1 ≤ mm ∧ mm ≤ 1048576 ∧ mm ≤ m := by omega
          have g3 := HK3.out.heap HGB.out (fun q => by rcases q with q | q | q <;> omega)
          have y0 := cell_of_row _ _ 0 _ _ _ g3
          simp only [List.getElem?_toArray, List.getElem?_cons_zero] at y0
          have hput := tput_any W0 wr tb mb cb ck2 (c0 + (n - m)) mm x As2 Aa2 Ap2 ra cs2 ca2 cp2 rc es2 HT3.out ⟨hmb.1, hmb.2.1⟩ hx (HSR.out.kept HK3.out (fun _ q => q) (fun _ q => q))
          have HK4 := Lib.hid HK3.out
          have HKW := Lib.hid (HK0.out.trans HT3.out.kept)
          have HMK := Lib.hid hmk
          clear g3 hmk
          go_wp2_with fail
          refine hput.mono ?_
          rintro e w5 ⟨k5, es5, ck5, rfl, kk5, hres⟩
          rcases hres with ⟨rfl, hfit, hT5⟩ | ⟨hk5, hbig⟩
          · have HT5 := Lib.hid hT5
            have HK5 := Lib.hid (HK4.out.trans kk5)
            clear hT5 kk5 hput
            go_wp2_with fail
            go_roundg (m - mm).toNat
            case measure => have := HMK.out; omega
            case rel =>
              refine ⟨m - mm, es5, ck5, rfl, by omega, rfl, by omega, ?_, HK5⟩
              rw [show c0 + (n - (m - mm)) = c0 + (n - m) + mm by omega]
              exact HT5
          · have hk6 : (k5 != 0) = true := by simpa using hk5
            have hb6 := HT3.out.big
            have HK6 := Lib.hid (HKW.out.trans' kk5 (U := fun _ => False) (fun _ _ q => q) (fun j hj q => by have := HK0.out.size; rcases q with q | q | q <;> omega))
            clear kk5 hput
            go_wp2_with fail
            go_ret2
            exact ⟨_, k5, rfl, .inr ⟨hk5, rfl, by omega, HK6.out⟩⟩
        · have hd : decide (0 < m) = false := by simpa using hm1
          have hm : m = 0 := by omega
          subst hm
          go_wp2_with fail
          go_roundg (NL - (i + 1))
          case measure => omega
          case rel =>
            refine ⟨i + 1, es2, ck2, by omega, rfl, ?_⟩
            rw [HTK.out]
            have h := HT3.out
            rw [Int.sub_zero] at h
            exact h
    · have hiL : i = l.length := by rw [HNL.out]; omega
      rw [hiL, List.take_length, HTT.out] at hT
      have hrow := fun t => trow_any W0 wo tb mb cb ck T t As2 Aa2 Ap2 cs2 ca2 cp2 es hT htp
      have hfit := hT.rng.2
      have gp := hT.kept.heap HA0.out (fun q => q)
      have y0 := cell_of_row _ _ 0 _ _ _ gp
      simp only [List.getElem?_toArray, List.getElem?_cons_zero] at y0
      have HKW := Lib.hid kw
      clear hT gp hiL HT kw
      go_wp2_with fail
      refine (hrow s).mono ?_
      rintro e w5 ⟨v5, rfl, hn5⟩
      have HN5 := Lib.hid hn5
      clear hn5 hrow
      go_wp2_with fail
      refine (hcp _).mono ?_
      rintro e w6 ⟨v6, rfl, hn6⟩
      obtain ⟨A5, c5, rfl, hA5, hs5⟩ := HN5.out.row.asSrc encW_len
      obtain ⟨v7, w7, hrun, A7, c7, rfl, hn7⟩ := New.src (P := Tryz.prog) 43 43 (.agg #[.int .i64 0, .int .i64 0, .string ByteArray.empty]) 32 Tryz.underlying43 (by kernel_rfl) rfl (by decide) encW_len encW_one hn6 (Kept.refl _ _) (numW T) A5 c5 hA5 (hs5.same hn6.kept) (by unfold numW; simp only [List.length_cons, List.length_nil, maxLen]; omega) (by unfold numW; simp only [List.length_cons, List.length_nil]; omega)
      have HN7 := Lib.hid (hn7.from (HKW.out.trans HN5.out.kept))
      obtain ⟨A6, c6, rfl, _, _⟩ := hn6.shape
      unfold numW at hrun
      simp only [List.length_cons, List.length_nil] at hrun
      clear hn6 hn7 hs5
      have e1 : (numW T).length = 1 := rfl
      rw [e1]
      clear e1
      have tok := True.intro
      go_wp2_with (at_builtin; have _t := tok; refine wpList_run rfl _ _ _ rfl rfl rfl hrun ?_; clear tok)
      go_ret2
      exact ⟨_, 0, rfl, .inl ⟨rfl, hfit, HN7.out⟩⟩
end Go.Proofs.YthkeigljiinlbaaGreat
