/- step.Norm, in plain lists. -/
import Derived.Test.YthkeigljiinlbaaGreatM20
namespace Go.Proofs.YthkeigljiinlbaaGreat
open Go.RowKit

/-- What a list of jumps comes to at a place. -/
def sumTo (L : List Jp) (t : Int) : Int := (L.map (fun j => if j.a ≤ t then j.n else 0)).sum
theorem sumTo_nil (t : Int) : sumTo [] t = 0 := rfl
theorem sumTo_cons (x : Jp) (L : List Jp) (t : Int) : sumTo (x :: L) t = (if x.a ≤ t then x.n else 0) + sumTo L t := by unfold sumTo; rw [List.map_cons, List.sum_cons]
theorem sumTo_app (L M : List Jp) (t : Int) : sumTo (L ++ M) t = sumTo L t + sumTo M t := by unfold sumTo; rw [List.map_append, List.sum_append]
theorem sumTo_perm {L M : List Jp} (h : L.Perm M) (t : Int) : sumTo L t = sumTo M t := by
  induction h with
  | nil => rfl
  | cons x _ ih => rw [sumTo_cons, sumTo_cons, ih]
  | swap x y l => rw [sumTo_cons, sumTo_cons, sumTo_cons, sumTo_cons]; omega
  | trans _ _ h1 h2 => rw [h1, h2]
theorem sumTo_low {L : List Jp} {t : Int} (h : ∀ x ∈ L, t < x.a) : sumTo L t = 0 := by
  induction L with
  | nil => rfl
  | cons x L ih =>
    rw [sumTo_cons, ih (fun y hy => h y (List.mem_cons_of_mem _ hy)), if_neg (by have := h x (List.mem_cons_self ..); omega)]
    rfl
def sumN (L : List Jp) : Int := (L.map Jp.n).sum
theorem sumN_snoc (L : List Jp) (x : Jp) : sumN (L ++ [x]) = sumN L + x.n := by unfold sumN; rw [List.map_append, List.sum_append]; simp
theorem sumTo_high {L : List Jp} {t : Int} (h : ∀ x ∈ L, x.a ≤ t) : sumTo L t = sumN L := by
  induction L with
  | nil => rfl
  | cons x L ih =>
    rw [sumTo_cons, ih (fun y hy => h y (List.mem_cons_of_mem _ hy)), if_pos (h x (List.mem_cons_self ..))]
    unfold sumN
    rw [List.map_cons, List.sum_cons]
theorem sumN_bd {L : List Jp} (h : ∀ x ∈ L, -1 ≤ x.n ∧ x.n ≤ 1) : -(L.length : Int) ≤ sumN L ∧ sumN L ≤ L.length := by
  induction L with
  | nil => exact ⟨by simp [sumN], by simp [sumN]⟩
  | cons x L ih =>
    have h1 := ih (fun y hy => h y (List.mem_cons_of_mem _ hy))
    have h2 := h x (List.mem_cons_self ..)
    have e : sumN (x :: L) = x.n + sumN L := by unfold sumN; rw [List.map_cons, List.sum_cons]
    rw [e, List.length_cons]
    omega

/-- The jumps P have been put together to R. -/
structure NormI (P R : List Jp) : Prop where
  rise : R.Pairwise (fun x y => x.a < y.a)
  at_ : ∀ r ∈ R, -1 ≤ r.a ∧ r.a < 1125899906842624 ∧ r.n ≠ 0 ∧ -(P.length : Int) ≤ r.n ∧ r.n ≤ P.length ∧ ∃ p ∈ P, r.a = p.a
  len : R.length ≤ P.length
  sum : ∀ t, t < 1125899906842624 → sumTo R t = sumTo P t
theorem NormI.nil : NormI [] [] := ⟨List.Pairwise.nil, (fun r hr => by cases hr), Nat.le_refl _, fun _ _ => rfl⟩
theorem norm_step {P R G : List Jp} {a0 : Int} (h : NormI P R) (hG : G ≠ []) (ha : ∀ x ∈ G, x.a = a0) (hP : ∀ p ∈ P, p.a < a0) (h0 : -1 ≤ a0) (hn : ∀ x ∈ G, -1 ≤ x.n ∧ x.n ≤ 1) :
    NormI (P ++ G) (if sumN G ≠ 0 ∧ a0 < 1125899906842624 then R ++ [⟨a0, sumN G⟩] else R) := by
  have hb := sumN_bd hn
  obtain ⟨g, hg⟩ : ∃ g, g ∈ G := List.exists_mem_of_ne_nil _ hG
  have hl : 0 < G.length := List.length_pos_of_mem hg
  have hR : ∀ r ∈ R, r.a < a0 := fun r hr => by
    obtain ⟨_, _, _, _, _, p, hp, e⟩ := h.at_ r hr
    rw [e]; exact hP p hp
  have hR2 : ∀ r ∈ R, -1 ≤ r.a ∧ r.a < 1125899906842624 ∧ r.n ≠ 0 ∧ -((P ++ G).length : Int) ≤ r.n ∧ r.n ≤ (P ++ G).length ∧ ∃ p ∈ P ++ G, r.a = p.a := fun r hr => by
    obtain ⟨q1, q2, q3, q4, q5, p, hp, e⟩ := h.at_ r hr
    refine ⟨q1, q2, q3, ?_, ?_, p, List.mem_append_left _ hp, e⟩ <;> rw [List.length_append] <;> omega
  have hsum : ∀ t, sumTo G t = if a0 ≤ t then sumN G else 0 := fun t => by
    split
    · exact sumTo_high (fun x hx => by rw [ha x hx]; assumption)
    · exact sumTo_low (fun x hx => by rw [ha x hx]; omega)
  split
  · rename_i hc
    refine ⟨List.pairwise_append.2 ⟨h.rise, List.pairwise_singleton _ _, fun x hx y hy => ?_⟩, fun r hr => ?_, ?_, fun t ht => ?_⟩
    · rw [List.mem_singleton] at hy; subst hy; exact hR x hx
    · rcases List.mem_append.1 hr with hr | hr
      · exact hR2 r hr
      · rw [List.mem_singleton] at hr
        subst hr
        refine ⟨h0, hc.2, hc.1, ?_, ?_, g, List.mem_append_right _ hg, (ha g hg).symm⟩ <;> rw [List.length_append] <;> simp only <;> omega
    · have := h.len
      rw [List.length_append, List.length_append, List.length_singleton]
      omega
    · rw [sumTo_app, sumTo_app, h.sum t ht, sumTo_cons, sumTo_nil, hsum t]
      simp only
      omega
  · rename_i hc
    refine ⟨h.rise, hR2, ?_, fun t ht => ?_⟩
    · have := h.len
      rw [List.length_append]; omega
    · rw [sumTo_app, h.sum t ht, hsum t]
      split
      · have : sumN G = 0 := by
          by_cases q : sumN G = 0
          · exact q
          · exact absurd ⟨q, by omega⟩ hc
        omega
      · omega
theorem rises_of : ∀ (R : List Jp) (last : Int), R.Pairwise (fun x y => x.a < y.a) → (∀ r ∈ R, last < r.a ∧ r.a < 1125899906842624 ∧ r.n ≠ 0 ∧ -1048576 ≤ r.n ∧ r.n ≤ 1048576) → risesF R last = true
  | [], _, _, _ => rfl
  | x :: R, last, hp, h => by
    obtain ⟨h1, h2, h3, h4, h5⟩ := h x (List.mem_cons_self ..)
    rw [List.pairwise_cons] at hp
    have hf : fairB x.n = true := by unfold fairB; simp; omega
    rw [risesF, if_neg (by rw [hf]; simp; omega)]
    exact rises_of R x.a hp.2 (fun r hr => ⟨hp.1 r hr, (h r (List.mem_cons_of_mem _ hr)).2⟩)
theorem NormI.may {P R : List Jp} (h : NormI P R) (hl : P.length ≤ 1000) : stepMayB R = true := by
  unfold stepMayB
  rw [if_neg (by have := h.len; omega)]
  exact rises_of R (-2) h.rise (fun r hr => by
    obtain ⟨q1, q2, q3, q4, q5, _⟩ := h.at_ r hr
    exact ⟨by omega, q2, q3, by omega, by omega⟩)
end Go.Proofs.YthkeigljiinlbaaGreat

/- step.Norm. -/
namespace Go.Proofs.YthkeigljiinlbaaGreat
open Go.RowKit

set_option maxRecDepth 100000 in
theorem told_any (R : List Jp) (A : Option Addr) (c : Nat) (w : World) (hs : Src encJ 2 w (fun _ => False) A R) (hl : R.length ≤ maxLen) (hm : stepMayB R = true) :
    Calls Tryz.prog 99 #[.slice A R.length c] w fun e w' => e = .returned (.tuple #[.slice A R.length c, .int .i64 0]) ∧ Kept (fun _ => False) w w' := by
  have hmy := fun wx hx => stepMay_any R A c wx hx hl
  rw [hm] at hmy
  clear hm
  go_enter Tryz.func99, Tryz.ntmps99
  go_wp2_with fail
  refine (hmy _ hs).mono ?_
  rintro e w1 ⟨rfl, k1⟩
  go_wp2_with fail
  go_ret2
  exact ⟨rfl, k1⟩

theorem findI_no {α : Type} {p : Nat → α → Bool} : ∀ {L : List α} {n : Nat}, (∀ i x, L[i]? = some x → p (n + i) x = false) → findI p L n = -1
  | [], _, _ => rfl
  | x :: L, n, h => by
    rw [findI, if_neg (by have := h 0 x rfl; rw [Nat.add_zero] at this; rw [this]; simp)]
    exact findI_no (fun i y hy => by have := h (i + 1) y (by simpa using hy); rw [show n + 1 + i = n + (i + 1) by omega]; exact this)

set_option maxHeartbeats 4000000 in
set_option maxRecDepth 100000 in
theorem stepNorm_any (L : List Jp) (A : Option Addr) (c : Nat) (w : World) (hA : A = none → L = [] ∧ c = 0) (hs : Src encJ 2 w (fun _ => False) A L) (hl : L.length ≤ 1000) (hb : ∀ x ∈ L, (-1 ≤ x.a ∧ x.a ≤ 1125899906842624) ∧ -1 ≤ x.n ∧ x.n ≤ 1) :
    Calls Tryz.prog 52 #[.slice A L.length c] w fun e w' => ∃ v R, e = .returned (.tuple #[v, .int .i64 0]) ∧ New encJ 2 80 w w' v R ∧ NormI L R := by
  have hc1 := fun wx (hx : Src encJ 2 wx (fun _ => False) A L) => contJ_any L A c wx 94 #[] (fun _ x => !fairB x.n) (fun _ W => Src encJ 2 W (fun _ => False) A L ∧ Kept (fun _ => False) wx W) (by unfold maxLen; omega) (enters_of Tryz.func94 (by kernel_rfl) rfl) (fun _ _ q => q.1)
    (fun n x W q _ => (norm1J_any x W).mono fun e W' r => ⟨r.1, q.1.same r.2, q.2.trans r.2⟩) ⟨hx, Kept.refl _ wx⟩
  have hc2 := fun wx (hx : Src encJ 2 wx (fun _ => False) A L) => contJ_any L A c wx 95 #[] (fun _ _ => false) (fun _ W => Src encJ 2 W (fun _ => False) A L ∧ Kept (fun _ => False) wx W) (by unfold maxLen; omega) (enters_of Tryz.func95 (by kernel_rfl) rfl) (fun _ _ q => q.1)
    (fun n x W q hx => (norm2J_any x W (hb x (List.mem_of_getElem? hx)).1.1 (hb x (List.mem_of_getElem? hx)).1.2).mono fun e W' r => ⟨r.1, q.1.same r.2, q.2.trans r.2⟩) ⟨hx, Kept.refl _ wx⟩
  rw [findI_no (fun i x hx => by have := (hb x (List.mem_of_getElem? hx)).2; unfold fairB; simp; omega)] at hc1
  rw [findI_no (fun i x hx => rfl)] at hc2
  have hcl := fun wx hx => cloneJ_any L A c wx hA hx (by omega)
  have hso := fun v wx hr => sortJ_any L v wx hr (by omega)
  have HB := Lib.hid hb
  have HL := Lib.hid hl
  clear hb
  go_enter Tryz.func52, Tryz.ntmps52
  go_wp2_with fail
  refine (hc1 _ hs).mono ?_
  rintro e w1 ⟨_, rfl, hs1, k1⟩
  go_wp2_with fail
  refine (hc2 _ hs1).mono ?_
  rintro e w2 ⟨_, rfl, hs2, k2⟩
  go_wp2_with fail
  refine (hcl _ hs2).mono ?_
  rintro e w3 ⟨v, rfl, hn3⟩
  go_wp2_with fail
  refine (hso v _ hn3.row).mono ?_
  rintro e wS ⟨rfl, Z, hzp, hzs, hzr, k4⟩
  have kS : Kept (fun _ => False) w wS := ((k1.trans k2).trans hn3.kept).trans' k4 (fun _ _ q => q) (fun j hj q => by have := hn3.own j q; have := (k1.trans k2).size; omega)
  obtain ⟨Az, cz, hv, _, hsz⟩ := hzr.asSrc encJ_len
  subst hv
  have KS := Lib.hid kS
  have HZP := Lib.hid hzp
  have HZS := Lib.hid hzs
  have hzl : Z.length = L.length := hzp.length_eq
  have HZB := Lib.hid (show ∀ x ∈ Z, (-1 ≤ x.a ∧ x.a ≤ 1125899906842624) ∧ -1 ≤ x.n ∧ x.n ≤ 1 from fun x hx => HB.out x (hzp.mem_iff.1 hx))
  obtain ⟨N, hN⟩ : ∃ N, Z.length = N := ⟨_, rfl⟩
  have hNl : N ≤ 1000 := by omega
  have HNZ := Lib.hid hN
  rw [hN]
  clear hc1 hc2 hcl hso hs1 hs2 k1 k2 k4 hn3 hzr kS hzp hzs hs hl hzl hN
  go_wp2_with fail
  go_loopg [5, 6] N (fun k ov iv wr => ∃ (i : Nat) (P Q R : List Jp), iv = .int .i64 i ∧ i ≤ N ∧ N - i ≤ k ∧ Hid (i = P.length ∧ Z = P ++ Q ∧ NormI P R ∧ ∀ p ∈ P, ∀ q ∈ Q, p.a < q.a) ∧ New encJ 2 80 wS wr ov R)
  case atStart =>
    refine ⟨0, [], Z, [], rfl, Nat.zero_le _, by omega, ⟨rfl, rfl, NormI.nil, (fun p hp => by cases hp)⟩, ?_⟩
    exact New.mkL encJ_len wS ([] : List Jp) (by simp [maxLen]) #[] rfl 0 rfl
  case round =>
    obtain ⟨i, P, Q, R, rfl, hiN, hk, HP, hn⟩ := hrel
    by_cases hlt : i < N
    · obtain ⟨q0, Q', hQ⟩ : ∃ q Q', Q = q :: Q' := by
        cases Q with
        | nil =>
          have h1 := HP.out.1
          have h2 := congrArg List.length HP.out.2.1
          rw [List.append_nil] at h2
          have := HNZ.out
          omega
        | cons q Q' => exact ⟨q, Q', rfl⟩
      have hz0 : Z[i]? = some q0 := by rw [HP.out.2.1, hQ]; exact get_app' _ _ HP.out.1
      obtain ⟨b, off, hAz, _, x0, x1⟩ := (hsz.same hn.kept).cells2 hz0
      subst hAz
      have HQ := Lib.hid hQ
      have hne := hn.row.lt
      obtain ⟨Ao, co, rfl, _, _⟩ := hn.shape
      have hal := heap_alloc_new wr (.cells #[.int .i64 q0.a, .int .i64 0] 80)
      have ka := (Kept.refl (fun _ => False) wr).alloc (.cells #[.int .i64 q0.a, .int .i64 0] 80)
      have hn1 := hn.same ka
      obtain ⟨G0, HG⟩ : ∃ G, Hid (G = gk ∧ N - i ≤ gk) := ⟨gk, rfl, hk⟩
      clear hz0 hQ
      go_wp2_with fail
      obtain ⟨bx, hbe⟩ : ∃ bx, wr.heap.size = bx := ⟨_, rfl⟩
      have hBX := Lib.hid (show wS.heap.size ≤ bx from by rw [← hbe]; exact hn.kept.size)
      rw [hbe] at hal hne
      rw [hbe]
      generalize hW0 : wr.alloc (.cells #[.int .i64 q0.a, .int .i64 0] 80) = W0 at *
      clear hW0 ka hn hbe
      go_loopg [6] N (fun k2 iv wx => ∃ (q : Nat) (G Q2 : List Jp), iv = .int .i64 q ∧ q ≤ N ∧ N - q ≤ k2 ∧ Hid (q = i + G.length ∧ Q = G ++ Q2 ∧ ∀ x ∈ G, x.a = q0.a) ∧ wx.heap[bx]? = some (.cells #[.int .i64 q0.a, .int .i64 (sumN G)] 80 (0, 0)) ∧ Kept (fun j => j = bx) W0 wx)
      case atStart => exact ⟨i, [], Q, rfl, hiN, by omega, ⟨rfl, rfl, (fun x hx => by cases hx)⟩, hal, Kept.refl _ _⟩
      case round =>
        obtain ⟨q, G, Q2, rfl, hqN, hk2, HGG, hbk, hkx⟩ := hrel
        have hSb : wS.heap.size ≤ bx := hBX.out
        have hzx : Src encJ 2 wr (fun _ => False) (some ⟨b, off, none⟩) Z := (hsz.old encJ_len (by decide)).kept (hn1.kept.trans' hkx (U := fun j => j = bx) (fun _ _ q => q.elim) (fun _ _ q => q)) (fun j q => .inr (by omega)) (fun _ q => q.elim)
        have bc0 := cell_of_row _ _ 0 _ _ _ hbk
        have bc1 := cell_of_row _ _ 1 _ _ _ hbk
        simp only [List.getElem?_toArray, List.getElem?_cons_zero, List.getElem?_cons_succ] at bc0 bc1
        have bf := frozen_of hbk 1
        have hnx : New encJ 2 80 wS wr (.slice Ao R.length co) R := ⟨hn1.row.kept hkx (fun j hj e => by have := hne j hj; omega), hn1.own, hn1.kept.trans' hkx (fun _ _ q => q) (fun j hj e => by omega)⟩
        have HBK := Lib.hid hbk
        have HKX := Lib.hid hkx
        have HNX := Lib.hid hnx
        have HLL : Hid (P.length + (G.length + Q2.length) = N) := by
          have h1 := congrArg List.length HP.out.2.1
          rw [HGG.out.2.1, List.length_append, List.length_append] at h1
          have := HNZ.out
          unfold Hid; omega
        have HSN : Hid (-1000 ≤ sumN G ∧ sumN G ≤ 1000) := by
          have := sumN_bd (L := G) (fun x hx => (HZB.out x (by rw [HP.out.2.1, HGG.out.2.1]; exact List.mem_append_right _ (List.mem_append_left _ hx))).2)
          have := HLL.out
          unfold Hid; omega
        by_cases hgo : ∃ x Q3, Q2 = x :: Q3 ∧ x.a = q0.a
        · obtain ⟨x, Q3, hQ2, hxa⟩ := hgo
          have hq : q < N := by have h1 := HLL.out; have h2 := HGG.out.1; have h3 := HP.out.1; rw [hQ2, List.length_cons] at h1; omega
          have hzq : Z[q]? = some x := by
            rw [HP.out.2.1, HGG.out.2.1, hQ2, ← List.append_assoc]
            exact get_app' _ _ (by rw [List.length_append]; have := HGG.out.1; have := HP.out.1; omega)
          obtain ⟨b', off', he, _, y0, y1⟩ := hzx.cells2 hzq
          injection he with he
          injection he with he1 he2
          subst he1 he2
          have HXA := Lib.hid hxa
          have hxa' : (x.a == q0.a) = true := by simpa using hxa
          have hxn := HZB.out x (List.mem_of_getElem? hzq)
          have hq2 : (q : Int) < (N : Int) := by omega
          obtain ⟨sg, hsg⟩ : ∃ sg, sumN G = sg := ⟨_, rfl⟩
          have HSG := Lib.hid hsg
          rw [hsg] at bc1 hbk
          have hbs : -1000 ≤ sg ∧ sg ≤ 1000 := by rw [← hsg]; exact HSN.out
          obtain ⟨hbs1, hbs2⟩ := hbs
          obtain ⟨_, hxn1, hxn2⟩ := hxn
          have hbk2 := blk_set hbk 1 (.int .i64 (sg + x.n))
          have hkx2 := hkx.setCell (p := ⟨bx, 1, none⟩) (fun _ => rfl) (.int .i64 (sg + x.n))
          have HB2 := Lib.hid hbk2
          have HK2 := Lib.hid hkx2
          have HQ2 := Lib.hid hQ2
          clear hxa hzq hbk hkx hnx hbk2 hkx2 hsg hQ2 hzx hsz
          go_wp2_with fail
          go_big_region
          go_wp2_with fail
          go_big_region
          go_wp2_with fail
          go_roundg (gk - 1)
          case measure => omega
          case rel =>
            refine ⟨q + 1, G ++ [x], Q3, int_eq (by omega), by omega, by omega, ⟨?_, ?_, ?_⟩, ?_, ?_⟩
            · rw [List.length_append, List.length_singleton, HGG.out.1]; omega
            · rw [HGG.out.2.1, HQ2.out]; simp
            · intro y hy
              rcases List.mem_append.1 hy with hy | hy
              · exact HGG.out.2.2 y hy
              · rw [List.mem_singleton] at hy; subst hy; exact HXA.out
            · rw [sumN_snoc, HSG.out]
              exact HB2.out
            · exact HK2.out.drew.drew
        · have hG0 : G ≠ [] := by
            intro e
            subst e
            have h1 := HGG.out.2.1
            rw [HQ.out, List.nil_append] at h1
            exact hgo ⟨q0, Q', h1.symm, rfl⟩
          have hGl : 0 < G.length := List.length_pos_iff.2 hG0
          have hPQ : ∀ p ∈ P ++ G, ∀ y ∈ Q2, p.a < y.a := by
            intro p hp y hy
            rcases List.mem_append.1 hp with hp | hp
            · exact HP.out.2.2.2 p hp y (by rw [HGG.out.2.1]; exact List.mem_append_right _ hy)
            · have hz := HZS.out
              rw [HP.out.2.1, HGG.out.2.1] at hz
              have hz2 := (srt_append.1 (srt_append.1 hz).2.1)
              cases hQ : Q2 with
              | nil => rw [hQ] at hy; cases hy
              | cons x Q3 =>
                have hne2 : x.a ≠ q0.a := fun e => hgo ⟨x, Q3, hQ, e⟩
                have h1 : keyJ p ≤ keyJ x := hz2.2.2 p hp x (by rw [hQ]; exact List.mem_cons_self ..)
                have h2 : keyJ x ≤ keyJ y := by
                  have h3 := hz2.2.1
                  rw [hQ] at h3 hy
                  rcases List.mem_cons.1 hy with rfl | hy
                  · exact Int.le_refl _
                  · exact (List.pairwise_cons.1 h3).1 y hy
                have h4 := HGG.out.2.2 p hp
                unfold keyJ at h1 h2
                omega
          have hst := norm_step HP.out.2.2.1 hG0 HGG.out.2.2 (fun p hp => HP.out.2.2.2 p hp q0 (by rw [HQ.out]; exact List.mem_cons_self ..)) (HZB.out q0 (by rw [HP.out.2.1, HQ.out]; simp)).1.1 (fun x hx => (HZB.out x (by rw [HP.out.2.1, HGG.out.2.1]; exact List.mem_append_right _ (List.mem_append_left _ hx))).2)
          have HST := Lib.hid hst
          have hrl := HP.out.2.2.1.len
          have HX : Hid (i + G.length = q ∧ 0 < G.length ∧ R.length ≤ 1000 ∧ ∀ p ∈ P ++ G, ∀ y ∈ Q2, p.a < y.a) := ⟨HGG.out.1.symm, hGl, by have := HLL.out; omega, hPQ⟩
          obtain ⟨sg, hsg⟩ : ∃ sg, sumN G = sg := ⟨_, rfl⟩
          have HSG := Lib.hid hsg
          have hrl2 : R.length ≤ 1000 := HX.out.2.2.1
          rw [hsg] at bc1 hbk
          clear hbk hkx hst hPQ hrl hGl
          have HQN : Hid ((Q2 = [] ∧ q = N) ∨ ∃ x, Z[q]? = some x ∧ x.a ≠ q0.a ∧ q < N) := by
            have h1 := HLL.out
            have h2 := HGG.out.1
            have h3 := HP.out.1
            cases hQ : Q2 with
            | nil => rw [hQ, List.length_nil] at h1; exact .inl ⟨rfl, by omega⟩
            | cons x Q3 =>
              rw [hQ, List.length_cons] at h1
              refine .inr ⟨x, ?_, fun e => hgo ⟨x, Q3, hQ, e⟩, by omega⟩
              rw [HP.out.2.1, HGG.out.2.1, hQ, ← List.append_assoc]
              exact get_app' _ _ (by rw [List.length_append]; omega)
          clear hgo hnx hsg hsz hrl2
          rcases HQN.out with hq0 | ⟨x, hzq, hxa, hq⟩
          case' inl =>
            have hq : ¬ ((q : Int) < (N : Int)) := by have := hq0.2; omega
            have hq2 : decide (q < N) = false := by simp; omega
            clear hq0 hzx
            go_wp2_with fail
            go_big_region
          case' inr =>
            have hxa' : (x.a == q0.a) = false := by simpa using hxa
            have hq2 : (q : Int) < (N : Int) := by omega
            obtain ⟨b', off', he, _, y0, y1⟩ := hzx.cells2 hzq
            injection he with he
            injection he with he1 he2
            subst he1 he2
            clear hzq hxa hzx
            go_wp2_with fail
            go_big_region
          all_goals
            have hnV := HNX.out.same (Kept.refl _ wr).drew
            have v0 := ((Kept.refl (fun _ => False) wr).drew).cell bc0 (fun q => q)
            have v1 := ((Kept.refl (fun _ => False) wr).drew).cell bc1 (fun q => q)
            clear bc0 bc1 bf HNX HBK HKX
            generalize wr.drew = V at *
            have hc3 : (sg ≠ 0 ∧ q0.a < 1125899906842624) ∨ sg = 0 ∨ (sg ≠ 0 ∧ ¬ q0.a < 1125899906842624) := by omega
            rcases hc3 with ⟨s1, s2⟩ | s1 | ⟨s1, s2⟩
            · have s3 : (sg == 0) = false := by simpa using s1
              have hrl2 := HX.out.2.2.1
              have hap := New.lit (P := Tryz.prog) (sz := 2) 52 52 (.agg #[.int .i64 0, .int .i64 0]) 16 Tryz.underlying52 (by kernel_rfl) rfl (by decide) encJ_len encJ_one hnV ((Kept.refl _ V).alloc (.cells #[.int .i64 q0.a, .int .i64 sg] 80)) [⟨q0.a, sg⟩] _ 1 (heap_alloc_new V (.cells #[.int .i64 q0.a, .int .i64 sg] 80)) (by simp only [maxLen, List.length_cons, List.length_nil]; omega) (by simp only [List.length_cons, List.length_nil]; omega)
              go_wp2_with (at_builtin; refine wpList_ex rfl _ _ _ _ rfl rfl rfl hap ?_; rintro v' w4 ⟨A', c', rfl, hn5⟩)
              go_roundg (G0 - 1)
              case measure => have := HG.out; have := HX.out; omega
              case rel =>
                have hst := HST.out
                rw [HSG.out, if_pos ⟨s1, s2⟩] at hst
                have := HG.out
                have := HX.out
                exact ⟨q, P ++ G, Q2, R ++ [⟨q0.a, sg⟩], rfl, by omega, by omega, ⟨by have := HP.out.1; simp only [List.length_append]; omega, by rw [HP.out.2.1, HGG.out.2.1, List.append_assoc], hst, HX.out.2.2.2⟩, hn5⟩
            all_goals
              first | (have s3 : (sg == 0) = true := by simpa using s1) | (have s3 : (sg == 0) = false := (by simpa using s1); have s4 : decide (q0.a < 1125899906842624) = false := (by simpa using s2))
              go_wp2_with fail
              go_roundg (G0 - 1)
              case measure => have := HG.out; have := HX.out; omega
              case rel =>
                have hst := HST.out
                rw [HSG.out, if_neg (by omega)] at hst
                have := HG.out
                have := HX.out
                exact ⟨q, P ++ G, Q2, R, rfl, by omega, by omega, ⟨by have := HP.out.1; simp only [List.length_append]; omega, by rw [HP.out.2.1, HGG.out.2.1, List.append_assoc], hst, HX.out.2.2.2⟩, hnV⟩
    · have e : i = N := by omega
      have hQ : Q = [] := by
        have h1 := congrArg List.length HP.out.2.1
        rw [List.length_append, HNZ.out] at h1
        have h3 := HP.out.1
        exact List.eq_nil_of_length_eq_zero (by omega)
      subst e
      obtain ⟨Ar, cr, rfl, _, hsr⟩ := hn.row.asSrc encJ_len
      have hpz : Z = P := by have := HP.out.2.1; rw [hQ, List.append_nil] at this; exact this
      have hni := HP.out.2.2.1
      rw [← hpz] at hni
      have hlz : Z.length ≤ 1000 := by have := HNZ.out; omega
      have htl := told_any R Ar cr wr hsr (by have := hni.len; unfold maxLen; omega) (hni.may hlz)
      have HNI := Lib.hid hni
      have HN := Lib.hid hn
      clear hQ hsr hpz hni hlz hsz
      go_wp2_with fail
      refine htl.mono ?_
      rintro e wT ⟨rfl, kT⟩
      go_wp2_with fail
      go_ret2
      refine ⟨_, R, rfl, (HN.out.same kT).from KS.out, ?_⟩
      have hni := HNI.out
      exact ⟨hni.rise, fun r hr => by
        obtain ⟨q1, q2, q3, q4, q5, p, hp, e⟩ := hni.at_ r hr
        have := HZP.out.length_eq
        exact ⟨q1, q2, q3, by omega, by omega, p, HZP.out.mem_iff.1 hp, e⟩, by rw [← HZP.out.length_eq]; exact hni.len, fun t ht => by rw [hni.sum t ht]; exact sumTo_perm HZP.out t⟩
end Go.Proofs.YthkeigljiinlbaaGreat
