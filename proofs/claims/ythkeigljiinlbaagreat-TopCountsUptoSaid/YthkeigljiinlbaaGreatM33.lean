/- group.groups: all edges are one group. -/
import Derived.Test.YthkeigljiinlbaaGreatM32
namespace Go.Proofs.YthkeigljiinlbaaGreat
open Go.RowKit Go.MapKept

theorem Row.otherMap {α : Type} {enc : α → List Value} {sz : Nat} {w : World} {L : List α} {T : TypeId} {v : Value} (h : Row enc sz T w v L) {c : Nat} {es : Array MapEntry} {ck : Nat} (hc : w.heap[c]? = some (.map es ck)) : v.ownBlock ≠ some c := by
  intro he
  rcases h.2 with ⟨rfl, _⟩ | ⟨g, cap, cur, rfl, _, hg, _⟩
  · cases he
  · simp [Value.ownBlock] at he
    subst he
    rw [hg] at hc
    cases hc

theorem Row.otherObj {α : Type} {enc : α → List Value} {sz : Nat} {w : World} {L : List α} {T : TypeId} {v : Value} (h : Row enc sz T w v L) {c : Nat} {o : Obj} (hc : w.heap[c]? = some o) (ho : ∀ cs T f, o ≠ .cells cs T f) : v.ownBlock ≠ some c := by
  intro he
  rcases h.2 with ⟨rfl, _⟩ | ⟨g, cap, cur, rfl, _, hg, _⟩
  · cases he
  · simp [Value.ownBlock] at he
    subst he
    rw [hg] at hc
    injection hc with hc
    exact ho _ _ _ hc.symm
theorem New.keptO {α : Type} {enc : α → List Value} {sz : Nat} {w0 w W : World} {L : List α} {T : TypeId} {v : Value} {S : Nat → Prop} (h : New enc sz T w0 w v L) (k : Kept S w W) (hS : ∀ j, S j → w0.heap.size ≤ j) (hv : ∀ j, v.ownBlock = some j → ¬ S j) : New enc sz T w0 W v L :=
  ⟨h.row.kept k hv, h.own, h.kept.trans' k (fun _ _ q => q) (fun j hj q => by have := hS j q; omega)⟩
theorem MapA.len {P : Program} {w : World} {mt kt et : TypeId} {d : TypeDesc} {b : Nat} {es : Array MapEntry} {clock : Nat} (h : MapA d w b es clock) (hm : P.underlying mt = some (.map kt et)) (ty : TypeId) :
    (Builtin.len_ #[mt] ty #[.map (some b)]).run P w = .ok (.int .i64 es.size) w := by
  simp [Builtin.len_, run_underlying hm, MapKept.run_getObj_map h.at_, goInt, Result.andThen]
def ptrV (b : Nat) : Value := .pointer (some ⟨b, 0, none⟩)
def encQ (b : Nat) : List Value := [ptrV b]
theorem encQ_len (x : Nat) : (encQ x).length = 1 := rfl
theorem encQ_one : ∀ x, ∀ u ∈ encQ x, u.oneCell' = true := by simp [encQ, ptrV, Value.oneCell']

/-- A row that lies in what was there ahead. -/
def SrcOk (w : World) (p : PE) : Prop := (p.1.1 = none → p.2.r = [] ∧ p.1.2 = 0) ∧ Src encW 3 w (fun _ => False) p.1.1 p.2.r ∧ p.2.r.length ≤ 1048576
def keyG : Value := .string ⟨⟨[0]⟩⟩
/-- A group of edges in block gb. -/
structure GrA (w W : World) (gb : Nat) (L : List Ed) (v : Value) (Av cv : Nat) (M : List PE) : Prop where
  at_ : W.heap[gb]? = some (.cells #[v, .slice (some ⟨Av, 0, none⟩) 0 cv] 99 (0, 0))
  row : Row encE 3 50 W v M
  all : M.map Prod.snd = L
  src : ∀ p ∈ M, SrcOk w p
  own : ∀ j, v.ownBlock = some j → w.heap.size ≤ j
  big : w.heap.size ≤ gb
theorem GrA.kept {w W W' : World} {gb : Nat} {L : List Ed} {v : Value} {Av cv : Nat} {M : List PE} {S : Nat → Prop} (h : GrA w W gb L v Av cv M) (k : Kept S W W') (h1 : ¬ S gb) (h2 : ∀ j, v.ownBlock = some j → ¬ S j) : GrA w W' gb L v Av cv M :=
  ⟨k.heap h.at_ h1, h.row.kept k h2, h.all, h.src, h.own, h.big⟩
/-- The map ahead of the edge i. -/
def GrS (w W : World) (mb : Nat) (L : List Ed) (i : Nat) : Prop :=
  (i = 0 ∧ MapA .string W mb #[] 0) ∨ (0 < i ∧ ∃ gb v Av cv M, MapA .string W mb #[⟨keyG, .pointer (some ⟨gb, 0, none⟩), 0⟩] 1 ∧ GrA w W gb (L.take i) v Av cv M)

set_option maxHeartbeats 4000000 in
set_option maxRecDepth 100000 in
theorem ggroups_any (L : List Ed) (A : Option Addr) (c : Nat) (w : World) (hl : L.length ≤ 4096) (hs : EdS w (fun _ => False) A L) (hr : ∀ x ∈ L, rowB x.r = true) :
    Calls Tryz.prog 14 #[.slice A L.length c, .slice none 0 0] w fun e w' => ∃ (u : Value) (Lg : List Nat), e = .returned u ∧ New encQ 1 65 w w' u Lg ∧
      ((L = [] ∧ Lg = []) ∨ (L ≠ [] ∧ ∃ gb v Av cv M, Lg = [gb] ∧ GrA w w' gb L v Av cv M)) := by
  have hz : ∀ W, (zeroValue 65).run Tryz.prog W = .ok (.pointer none) W := fun W => by kernel_rfl
  have hmk : ∀ W, (Instr.makeMap 92 none).run Tryz.prog W = .ok (.map (some W.heap.size)) (W.alloc (.map #[] 0)) := fun _ => rfl
  have hM0 := MapA.new (d := .string) w
  have k0 := (Kept.refl (fun _ => False) w).alloc (.map #[] 0)
  have hkey := fun A c wx => key0_any A c wx
  have HR := Lib.hid hr
  clear hr
  go_enter Tryz.func14, Tryz.ntmps14
  go_wp2_with fail
  go_loopg [17] L.length (fun k iv wr => ∃ (i : Nat), i + k = L.length ∧ iv = .int .i64 i ∧ Hid (GrS w wr w.heap.size L i) ∧ Kept (fun _ => False) w wr)
  case atStart => exact ⟨0, by omega, rfl, .inl ⟨rfl, hM0⟩, k0⟩
  case round =>
    obtain ⟨i, hk, rfl, HG, kr⟩ := hrel
    by_cases hlt : i < L.length
    · obtain ⟨x, hx⟩ : ∃ x, L[i]? = some x := ⟨L[i], List.getElem?_eq_getElem hlt⟩
      obtain ⟨b, off, B, d, rfl, _, x0, x1, x2, hB, hsx, hxl⟩ := (hs.same kr) i x hx
      have hso : SrcOk w ((B, d), x) := by
        obtain ⟨b2, off2, B2, d2, e, _, y0, _, _, hB2, hsx2, hxl2⟩ := hs i x hx
        injection e with e
        injection e with e1 e2
        subst e1 e2
        have h2 := kr.cell y0 (fun q => q)
        rw [x0] at h2
        injection h2 with h2
        injection h2 with h3 _ h4
        subst h3 h4
        exact ⟨hB2, hsx2, hxl2⟩
      have hxr := HR.out x (List.mem_of_getElem? hx)
      have htk : L.take (i + 1) = L.take i ++ [x] := by rw [List.take_add_one, hx]; rfl
      have HTK := Lib.hid htk
      have HSO := Lib.hid hso
      clear hso htk hx
      have hp := fun wx hx => pick0_any x.r B d wx hx hxr hxl
      have kal := (Kept.refl (fun _ => False) wr).alloc (.cells #[.slice B x.r.length d, .int .i64 x.a, .int .i64 x.n] 50)
      have al := heap_alloc_new wr (.cells #[.slice B x.r.length d, .int .i64 x.a, .int .i64 x.n] 50)
      go_wp2_with fail
      refine (hp _ (hsx.same kal)).mono ?_
      rintro e w2 ⟨Av2, cv2, rfl, hn2⟩
      go_wp2_with fail
      refine (hkey _ _ _).mono ?_
      rintro e w3 ⟨rfl, k3⟩
      have k13 := (kal.trans hn2.kept).trans k3
      have al3 := (hn2.kept.trans k3).heap al (fun q => q)
      have hmt : (Tryz.prog).underlying 92 = some (.map 9 65) := Tryz.underlying92
      have hms : (Tryz.prog).underlying 9 = some .string := Tryz.underlying9
      have hmw : w.heap.size < wr.heap.size := by
        rcases HG.out with ⟨_, hM⟩ | ⟨_, gb, v, Av, cv, M, hM, _⟩ <;> exact (Array.getElem?_eq_some_iff.1 hM.at_).1
      have hsz3 := k13.size
      rcases HG.out with ⟨hi0, hM⟩ | ⟨hi0, gb, v, Av, cv, M, hM, hG⟩
      case' inl =>
        have hM3 := hM.kept k13 (fun q => q)
        have hlk : (Instr.lookup 92 (.map (some w.heap.size)) (.string ⟨⟨[0]⟩⟩) false).run Tryz.prog w3 = .ok (.pointer none) w3 := by
          rcases hM3.look (P := Tryz.prog) hmt hms (k := .string ⟨⟨[0]⟩⟩) trivial (hz w3) with ⟨_, h⟩ | ⟨x, hx, _⟩
          · exact h
          · simp at hx
        have hM4 := hM3.kept ((Kept.refl (fun _ => False) w3).alloc (.cells #[.slice none 0 0, .slice (some ⟨Av2, 0, none⟩) 0 cv2] 99)) (fun q => q)
        have hal4 := heap_alloc_new w3 (.cells #[.slice none 0 0, .slice (some ⟨Av2, 0, none⟩) 0 cv2] 99)
        obtain ⟨es', ck', V, hrun, hMV, hkV, hcs⟩ := hM4.upd (P := Tryz.prog) hmt hms (k := .string ⟨⟨[0]⟩⟩) trivial (.pointer (some ⟨w3.heap.size, 0, none⟩))
        have hes : es' = #[⟨keyG, .pointer (some ⟨w3.heap.size, 0, none⟩), 0⟩] ∧ ck' = 1 := by
          rcases hcs with ⟨_, h1, h2⟩ | ⟨x, hx, _⟩
          · exact ⟨h1, h2⟩
          · simp at hx
        obtain ⟨rfl, rfl⟩ := hes
        have hgV := hkV.heap hal4 (fun q => by omega)
        have hG : GrA w V w3.heap.size (L.take i) (.slice none 0 0) Av2 cv2 [] := ⟨hgV, Row.ofNil V, by rw [hi0]; rfl, (fun p hp => by cases hp), (fun j hj => by cases hj), by omega⟩
        have k4 : Kept (fun _ => False) w V := ((kr.trans k13).alloc _).trans' hkV (fun _ _ q => q) (fun j hj q => by omega)
        have alV := hkV.heap (((Kept.refl (fun _ => False) w3).alloc (.cells #[.slice none 0 0, .slice (some ⟨Av2, 0, none⟩) 0 cv2] 99)).heap al3 (fun q => q)) (fun q => by omega)
        obtain ⟨gb, hgb⟩ : ∃ gb, w3.heap.size = gb := ⟨_, rfl⟩
        have HS0 := Lib.hid (show _ ∧ _ ∧ _ ∧ _ from ⟨hMV, hG, k4, alV⟩)
        rw [hgb] at hrun HS0
        obtain ⟨v, Av, cv, M, HS⟩ : ∃ v Av cv M, Hid (MapA .string V w.heap.size #[⟨keyG, .pointer (some ⟨gb, 0, none⟩), 0⟩] 1 ∧ GrA w V gb (L.take i) v Av cv M ∧ Kept (fun _ => False) w V ∧ V.heap[wr.heap.size]? = some (.cells #[.slice B x.r.length d, .int .i64 x.a, .int .i64 x.n] 50 (0, 0))) := ⟨_, _, _, _, HS0⟩
        clear HS0
        clear hM3 hM4 hal4 hMV hkV hgV hG k4 alV hcs hM hn2 k3 k13 al3 hp hkey
        go_wp2_with fail
      case' inr =>
        have hM3 := hM.kept k13 (fun q => q)
        have hlk : (Instr.lookup 92 (.map (some w.heap.size)) (.string ⟨⟨[0]⟩⟩) false).run Tryz.prog w3 = .ok (.pointer (some ⟨gb, 0, none⟩)) w3 := by
          rcases hM3.look (P := Tryz.prog) hmt hms (k := .string ⟨⟨[0]⟩⟩) trivial (hz w3) with ⟨h, _⟩ | ⟨x, hx, _, h⟩
          · exact absurd rfl (h ⟨keyG, .pointer (some ⟨gb, 0, none⟩), 0⟩ (by simp))
          · have : x = ⟨keyG, .pointer (some ⟨gb, 0, none⟩), 0⟩ := by simpa using hx
            rw [this] at h
            exact h
        have hG3 := hG.kept k13 (fun q => q) (fun _ _ q => q)
        have HS := Lib.hid (show MapA .string w3 w.heap.size #[⟨keyG, .pointer (some ⟨gb, 0, none⟩), 0⟩] 1 ∧ GrA w w3 gb (L.take i) v Av cv M ∧ Kept (fun _ => False) w w3 ∧ w3.heap[wr.heap.size]? = some (.cells #[.slice B x.r.length d, .int .i64 x.a, .int .i64 x.n] 50 (0, 0)) from ⟨hM3, hG3, kr.trans k13, al3⟩)
        clear hM3 hG hG3 hM hn2 k3 k13 al3 hp hkey hsz3
        obtain ⟨V, rfl⟩ : ∃ V, V = w3 := ⟨_, rfl⟩
        go_wp2_with fail
      all_goals
        obtain ⟨hMV, hG, k4, alV⟩ := HS.out
        clear HS
        have hdr := (Kept.refl (fun _ => False) V).drew
        have hlV : (Instr.lookup 92 (.map (some w.heap.size)) (.string ⟨⟨[0]⟩⟩) false).run Tryz.prog V.drew = .ok (.pointer (some ⟨gb, 0, none⟩)) V.drew := by
          rcases (hMV.kept hdr (fun q => q)).look (P := Tryz.prog) hmt hms (k := .string ⟨⟨[0]⟩⟩) trivial (hz V.drew) with ⟨h, _⟩ | ⟨x, hx, _, h⟩
          · exact absurd rfl (h ⟨keyG, .pointer (some ⟨gb, 0, none⟩), 0⟩ (by simp))
          · have : x = ⟨keyG, .pointer (some ⟨gb, 0, none⟩), 0⟩ := by simpa using hx
            rw [this] at h
            exact h
        have hGD := hG.kept hdr (fun q => q) (fun _ _ q => q)
        have hML : M.length = i := by
          have := congrArg List.length hG.all
          rw [List.length_map, List.length_take] at this
          omega
        have htake := take_any gb v (.slice (some ⟨Av, 0, none⟩) 0 cv) M ((B, d), x) V.drew hGD.at_ hGD.row (by omega)
        have alD := hdr.heap alV (fun q => q)
        have x0 := cell_of_row _ _ 0 _ _ _ alD
        have x1 := cell_of_row _ _ 1 _ _ _ alD
        have x2 := cell_of_row _ _ 2 _ _ _ alD
        simp only [List.getElem?_toArray, List.getElem?_cons_zero, List.getElem?_cons_succ] at x0 x1 x2
        have HM := Lib.hid (show _ ∧ _ ∧ _ from ⟨hMV.kept hdr (fun q => q), hGD, k4.drew⟩)
        clear hMV hG k4 alV hGD alD hML
        refine region_drawn rfl ?_
        refine wpAny_take (i := 0) (v := ?_) rfl (by kernel_rfl) (by kernel_rfl) (by kernel_rfl) (fun _ _ _ h => h) (Or.inl ⟨by rfl, ?_⟩) ?_
        rotate_left
        · (intro w; go_simp)
          try with_reducible rfl
        refine wpAny_take (i := 1) (v := ?_) rfl (by kernel_rfl) (by kernel_rfl) (by kernel_rfl) (fun _ _ _ h => h) (Or.inl ⟨by rfl, ?_⟩) ?_
        rotate_left
        · (intro w; go_simp)
          try with_reducible rfl
        refine wpAny_ready (rs := [2, 5]) (by kernel_rfl) (by simp) ?_
        refine AllReady.cons rfl (fun K hK => ?_) ?_
        · skip
          go_simp
          refine hK _ _ ?_
          clear hK K
          refine wpAny_take (i := 3) (v := ?_) rfl (by kernel_rfl) (by kernel_rfl) (by kernel_rfl) (fun _ _ _ h => h) (Or.inl ⟨by rfl, ?_⟩) ?_
          rotate_left
          · (intro w; go_simp)
            try with_reducible rfl
          refine wpAny_take (i := 4) (v := ?_) rfl (by kernel_rfl) (by kernel_rfl) (by kernel_rfl) (fun _ _ _ h => h) (Or.inl ⟨by rfl, ?_⟩) ?_
          rotate_left
          · (intro w; go_simp)
            try with_reducible rfl
          refine wpAny_ready (rs := [5]) (by kernel_rfl) (by simp) ?_
          refine AllReady.cons rfl (fun K hK => ?_) AllReady.nil
          go_simp
          refine hK _ _ ?_
          clear hK K
          refine wpAny_ready (rs := [6]) (by kernel_rfl) (by simp) ?_
          refine AllReady.cons rfl (fun K hK => ?_) AllReady.nil
          go_simp
          refine Calls.mono htake ?_
          rintro e W9 ⟨⟨u9, rfl⟩, v9, H9⟩
          refine hK _ _ ?_
          clear hK K
          refine wpAny_done (by kernel_rfl) ?_ _
          have H91 := H9.1
          have H92 := H9.2.1
          have H93 := H9.2.2.1
          have H94 := H9.2.2.2
          go_wp2_with fail
          go_roundg (L.length - (i + 1))
          case measure => omega
          case rel =>
            obtain ⟨m1, m2, m3⟩ := HM.out
            have hnb : w.heap.size ≠ gb := fun q => by have h1 := m1.at_; have h2 := m2.at_; rw [q, h2] at h1; cases h1
            have hnv : ¬ (w.heap.size = gb ∨ v.ownBlock = some w.heap.size) := fun q => by
              rcases q with q | q
              · exact hnb q
              · exact m2.row.otherMap m1.at_ q
            refine ⟨i + 1, by omega, (by first | rfl | (subst hi0; rfl)), .inr ⟨by omega, gb, v9, Av, cv, M ++ [((B, d), x)], m1.kept H93 hnv, ⟨H91, H92, ?_, ?_, ?_, m2.big⟩⟩, ?_⟩
            · rw [HTK.out, List.map_append, m2.all]; rfl
            · intro p hp
              rcases List.mem_append.1 hp with hp | hp
              · exact m2.src p hp
              · rw [List.mem_singleton] at hp
                subst hp
                exact HSO.out
            · intro j hj
              rcases H94 j hj with q | q
              · exact m2.own j q
              · exact Nat.le_trans m3.size q
            · exact m3.trans' H93 (fun _ _ q => q) (fun j hj q => by
                rcases q with q | q
                · have := m2.big; omega
                · have := m2.own j q; omega)
        · skip
          refine AllReady.cons rfl (fun K hK => ?_) AllReady.nil
          go_simp
          refine hK _ _ ?_
          clear hK K
          refine wpAny_ready (rs := [2]) (by kernel_rfl) (by simp) ?_
          refine AllReady.cons rfl (fun K hK => ?_) AllReady.nil
          go_simp
          refine hK _ _ ?_
          clear hK K
          refine wpAny_take (i := 3) (v := ?_) rfl (by kernel_rfl) (by kernel_rfl) (by kernel_rfl) (fun _ _ _ h => h) (Or.inl ⟨by rfl, ?_⟩) ?_
          rotate_left
          · (intro w; go_simp)
            try with_reducible rfl
          refine wpAny_take (i := 4) (v := ?_) rfl (by kernel_rfl) (by kernel_rfl) (by kernel_rfl) (fun _ _ _ h => h) (Or.inl ⟨by rfl, ?_⟩) ?_
          rotate_left
          · (intro w; go_simp)
            try with_reducible rfl
          refine wpAny_ready (rs := [6]) (by kernel_rfl) (by simp) ?_
          refine AllReady.cons rfl (fun K hK => ?_) AllReady.nil
          go_simp
          refine Calls.mono htake ?_
          rintro e W9 ⟨⟨u9, rfl⟩, v9, H9⟩
          refine hK _ _ ?_
          clear hK K
          refine wpAny_done (by kernel_rfl) ?_ _
          have H91 := H9.1
          have H92 := H9.2.1
          have H93 := H9.2.2.1
          have H94 := H9.2.2.2
          go_wp2_with fail
          go_roundg (L.length - (i + 1))
          case measure => omega
          case rel =>
            obtain ⟨m1, m2, m3⟩ := HM.out
            have hnb : w.heap.size ≠ gb := fun q => by have h1 := m1.at_; have h2 := m2.at_; rw [q, h2] at h1; cases h1
            have hnv : ¬ (w.heap.size = gb ∨ v.ownBlock = some w.heap.size) := fun q => by
              rcases q with q | q
              · exact hnb q
              · exact m2.row.otherMap m1.at_ q
            refine ⟨i + 1, by omega, (by first | rfl | (subst hi0; rfl)), .inr ⟨by omega, gb, v9, Av, cv, M ++ [((B, d), x)], m1.kept H93 hnv, ⟨H91, H92, ?_, ?_, ?_, m2.big⟩⟩, ?_⟩
            · rw [HTK.out, List.map_append, m2.all]; rfl
            · intro p hp
              rcases List.mem_append.1 hp with hp | hp
              · exact m2.src p hp
              · rw [List.mem_singleton] at hp
                subst hp
                exact HSO.out
            · intro j hj
              rcases H94 j hj with q | q
              · exact m2.own j q
              · exact Nat.le_trans m3.size q
            · exact m3.trans' H93 (fun _ _ q => q) (fun j hj q => by
                rcases q with q | q
                · have := m2.big; omega
                · have := m2.own j q; omega)
    · have hiL : i = L.length := by omega
      subst hiL
      have hg1 : ∃ es ck, MapA .string wr w.heap.size es ck ∧ es.size ≤ 1 ∧ Hid ((L = [] ∧ es = #[]) ∨ (L ≠ [] ∧ ∃ gb v Av cv M, es = #[⟨keyG, ptrV gb, 0⟩] ∧ GrA w wr gb L v Av cv M)) := by
        rcases HG.out with ⟨h0, hM⟩ | ⟨h0, gb, v, Av, cv, M, hM, hG⟩
        · exact ⟨_, _, hM, by simp, .inl ⟨List.length_eq_zero_iff.1 h0, rfl⟩⟩
        · rw [List.take_length] at hG
          exact ⟨_, _, hM, by simp, .inr ⟨fun q => by rw [q] at h0; exact absurd h0 (by decide), gb, v, Av, cv, M, rfl, hG⟩⟩
      clear HG
      obtain ⟨es, ck, hM, hs1, HE⟩ := hg1
      have hmt : (Tryz.prog).underlying 92 = some (.map 9 65) := Tryz.underlying92
      have hlen := hM.len (P := Tryz.prog) hmt 3
      obtain ⟨C, hmk, hnw⟩ := make_any (P := Tryz.prog) 63 65 (.pointer none) 1 8 Tryz.underlying63 (by kernel_rfl) es.size es.size rfl (by unfold maxLen; omega) (by omega)
      have hn0 := hnw Nat encQ wr
      have kmk := (Kept.refl (fun _ => False) wr).alloc (.cells C 65)
      obtain ⟨hrg, hI0⟩ := (hM.kept kmk (fun q => q)).range (P := Tryz.prog) hmt
      have HNN := Lib.hid (hn0.same ((Kept.refl (fun _ => False) _).alloc (.mapIter (some w.heap.size) ck #[] ck)))
      simp only [World.size_alloc] at hrg hI0
      have HI := Lib.hid hI0
      have hsw := kr.size
      clear hI0 hn0 hnw hM
      go_wp2_with fail
      obtain ⟨w8, rfl⟩ : ∃ w8, w8 = wr := ⟨_, rfl⟩
      go_loopg [11] (leftOf es #[]).toList.length (fun k ov wr2 => ∃ (seen : Array Nat) (Lg : List Nat), Hid (IterA .string wr2 (w8.heap.size + 1) w.heap.size es ck seen) ∧ (leftOf es seen).toList.length = k ∧ New encQ 1 65 w8 wr2 ov Lg ∧
        Hid ((Lg.map ptrV ++ (leftOf es seen).toList.map (·.val)).Perm (es.toList.map (·.val))))
      case atStart => exact ⟨#[], [], HI, rfl, HNN.out, by rw [left_nil]; exact List.Perm.refl _⟩
      case round =>
        obtain ⟨seen, Lg, HI, hkk, hN, HP⟩ := hrel
        obtain ⟨Ao, co, rfl, _, _⟩ := hN.shape
        have hLs : Lg.length + (leftOf es seen).toList.length ≤ 1 := by
          have := HP.out.length_eq
          simp only [List.length_append, List.length_map, Array.length_toList] at this ⊢
          omega
        have HN := Lib.hid hN
        rcases HI.out.next (P := Tryz.prog) 0 with ⟨hlf, hnx⟩ | ⟨e, he, W, hnx, hI2, hkW, hent⟩
        · have hsort := fun wx => sortG0 Lg.length (by omega) Ao co (.func (.func 39) #[] #[]) wx
          have HLF := Lib.hid hlf
          clear hN hkk hlf hLs
          go_wp2_with fail
          refine (hsort _).mono ?_
          rintro e w9 ⟨⟨u9, rfl⟩, rfl⟩
          go_wp2_with fail
          go_ret
          refine ⟨_, Lg, rfl, HN.out.from kr, ?_⟩
          have hperm := HP.out
          rw [HLF.out, List.map_nil, List.append_nil] at hperm
          rcases HE.out with ⟨q1, q2⟩ | ⟨q1, gb, v, Av, cv, M, q2, hG⟩
          · refine .inl ⟨q1, ?_⟩
            have := hperm.length_eq
            rw [q2] at this
            exact List.eq_nil_of_length_eq_zero (by simpa using this)
          · refine .inr ⟨q1, gb, v, Av, cv, M, ?_, hG.kept HN.out.kept (fun q => q) (fun _ _ q => q)⟩
            rw [q2] at hperm
            have h1 := List.perm_singleton.1 hperm
            cases Lg with
            | nil => cases h1
            | cons y Lg =>
              rw [List.map_cons] at h1
              injection h1 with h1 h2
              rw [List.map_eq_nil_iff.1 h2]
              unfold ptrV at h1
              injection h1 with h1
              injection h1 with h1
              injection h1 with h1
              rw [h1]
        · have hI1 := HI.out
          have hee : e ∈ es.toList := by
            have h := he
            unfold leftOf at h
            simp at h
            simpa using h.1
          obtain ⟨gb, hgb⟩ : ∃ gb, e.val = ptrV gb := by
            rcases HE.out with ⟨_, q⟩ | ⟨_, gb, v, Av, cv, M, q, _⟩
            · rw [q] at hee; simp at hee
            · rw [q] at hee
              simp only [List.mem_singleton] at hee
              rw [hee]
              exact ⟨gb, rfl⟩
          rw [hgb] at hnx hent
          have hNW : New encQ 1 65 w8 W (.slice Ao Lg.length co) Lg := hN.keptO hkW (fun j q => by omega) (fun j hj q => hN.row.otherObj (hI1.it) (fun _ _ _ q => by cases q) (by rw [hj, q]))
          have hL0 : Lg.length = 0 := by
            have : 0 < (leftOf es seen).toList.length := List.length_pos_of_mem he
            omega
          have kal := (Kept.refl (fun _ => False) W).alloc (.cells #[ptrV gb] 65)
          obtain ⟨v', w', hrun, hR, hkR, hoR⟩ := Row.lit (P := Tryz.prog) (sz := 1) 63 63 (.pointer none) 8 Tryz.underlying63 (by kernel_rfl) rfl (by decide) encQ_len encQ_one (hNW.row.same kal) [gb] W.heap.size 1 (heap_alloc_new W _) (by simp only [List.length_cons, List.length_nil, maxLen]; omega) (by simp only [List.length_cons, List.length_nil]; omega)
          have hN' := hNW.app kal ⟨hR, hkR, hoR⟩
          have hI3 : IterA .string w' (w8.heap.size + 1) w.heap.size es ck (seen.push e.born) := by
            refine (hI2.kept kal (fun q => q) (fun q => q)).kept hkR (fun q => ?_) (fun q => ?_)
            · exact hNW.row.otherObj hI2.map.at_ (fun _ _ _ q => by cases q) q
            · exact hNW.row.otherObj hI2.it (fun _ _ _ q => by cases q) q
          have hpush := left_push hI1.map.st.2.1 he
          have HN' := Lib.hid hN'
          have HI2 := Lib.hid hI3
          have HGB := Lib.hid hgb
          have HKK := Lib.hid hkk
          unfold ptrV at hrun hnx hent
          clear hN hNW hN' hI1 hI2 hI3 hkW hR hkR hoR kal hgb hkk
          have tok := True.intro
          go_wp2_with (at_builtin; have _t := tok; refine wpList_run rfl _ _ _ rfl rfl rfl hrun ?_; clear tok)
          go_roundg ((leftOf es (seen.push e.born)).toList.length)
          case measure =>
            have := hpush.length_eq
            rw [List.length_cons] at this
            have := HKK.out
            omega
          case rel =>
            refine ⟨seen.push e.born, Lg ++ [gb], HI2, rfl, HN'.out, ?_⟩
            have h1 := HP.out
            have h2 := (hpush.map (fun x : MapEntry => x.val))
            rw [List.map_cons, HGB.out] at h2
            refine List.Perm.trans ?_ h1
            rw [List.map_append, List.append_assoc]
            exact (List.Perm.append_left _ h2.symm)
end Go.Proofs.YthkeigljiinlbaaGreat
