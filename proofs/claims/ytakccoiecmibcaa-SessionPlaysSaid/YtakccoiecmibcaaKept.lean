/- SessionKept: two records side by side; the walk. Printed by gen_kept2.py. -/
import Derived.Test.YtakccoiecmibcaaSame
namespace Go.Proofs.Ytakccoiecmibcaa
open Go.RowKit Go.Maps

/-! ### two records -/
structure Two (w0 w : World) (idle abs : Int) (sa ma : Nat) (UA : Sss) (sb mb : Nat) (UB : Sss) : Prop where
  two : ∃ XA XB, SesAt w sa ma idle abs XA ∧ absW XA = UA ∧ SesAt w sb mb idle abs XB ∧ absW XB = UB ∧ Kept [] w0 w ∧ (∀ i ∈ sdom sa ma XA, w0.heap.size ≤ i) ∧ (∀ i ∈ sdom sb mb XB, w0.heap.size ≤ i) ∧ ∀ i ∈ sdom sa ma XA, i ∉ sdom sb mb XB
section
variable {w0 w w' : World} {idle abs : Int} {sa ma sb mb : Nat} {UA UB : Sss}
theorem Two.swap (h : Two w0 w idle abs sa ma UA sb mb UB) : Two w0 w idle abs sb mb UB sa ma UA := by
  obtain ⟨XA, XB, h1, h2, h3, h4, k, h5, h6, h7⟩ := h.two
  exact ⟨XB, XA, h3, h4, h1, h2, k, h6, h5, fun i hi hj => h7 i hj hi⟩
theorem Two.kept (h : Two w0 w idle abs sa ma UA sb mb UB) : Kept [] w0 w := by
  obtain ⟨XA, XB, _, _, _, _, k, _⟩ := h.two; exact k
theorem Two.good (h : Two w0 w idle abs sa ma UA sb mb UB) : Good idle abs UA := by
  obtain ⟨XA, XB, h1, rfl, _⟩ := h.two; exact h1.good
theorem Two.keptN (h : Two w0 w idle abs sa ma UA sb mb UB) (k' : Kept [] w w') : Two w0 w' idle abs sa ma UA sb mb UB := by
  obtain ⟨XA, XB, h1, h2, h3, h4, k, h5, h6, h7⟩ := h.two
  exact ⟨XA, XB, h1.keptN k', h2, h3.keptN k', h4, k.step k' (by simp), h5, h6, h7⟩
theorem new_two {p : List Nat} {wp : World} {i0 a0 : Int} (h : St w0 w sa ma (lim i0) (lim a0) UA p wp) (hc : newC i0 a0 = 0) : Calls Try.prog 8 #[.int .i64 i0, .int .i64 a0] w fun e w' => ∃ sb mb, e = .returned (.tuple #[.pointer (some ⟨sb, 0, none⟩), .int .i64 0]) ∧ Two w0 w' (lim i0) (lim a0) sa ma UA sb mb [] := by
  obtain ⟨X, h1, e, k, hd, _⟩ := h.st
  refine (new_ok hc w).mono ?_
  rintro e' w' ⟨rfl, h2, k2, hz⟩
  have hsz := k.size
  exact ⟨_, _, rfl, X, [], h1.keptN k2, e, h2, rfl, k.step k2 (by simp), hd, fun i hi => by simp [sdom, pdom] at hi; omega, fun i hi hj => by have := h1.lt i hi; simp [sdom, pdom] at hj; omega⟩
theorem do_two (h : Two w0 w idle abs sa ma UA sb mb UB) (x : OpD) (hs : Small x) (hl : PrfsAt w x.pa x.proofs) :
    Calls Try.prog 20 #[.pointer (some ⟨sa, 0, none⟩), .agg #[.int .i64 x.call, .int .i64 x.now, .string ⟨x.id.toArray⟩, .string ⟨x.user.toArray⟩, .string ⟨x.tenant.toArray⟩, .string ⟨x.device.toArray⟩, .string ⟨x.client.toArray⟩, .slice x.pa x.proofs.length x.pc]] w fun e w' => DoRes w w' e (doL UA x) (doE UA x) ∧ Two w0 w' idle abs sa ma (doU idle abs UA x) sb mb UB := by
  obtain ⟨XA, XB, h1, rfl, h3, rfl, k, h5, h6, h7⟩ := h.two
  refine (do_any h1 x hs hl).mono ?_
  rintro e w' ⟨he, XA', h1', e', k', hd⟩
  refine ⟨he, XA', XB, h1', e', h3.kept k' (fun i hi hj => h7 i hj hi), rfl, k.trans k' (fun i hi => .inr (h5 i hi)), fun i hi => (hd i hi).elim (h5 i) (fun e => Nat.le_trans k.size e), h6, fun i hi hj => ?_⟩
  rcases hd i hi with e | e
  · exact h7 i e hj
  · have := h3.lt i hj; omega
theorem get_two (h : Two w0 w idle abs sa ma UA sb mb UB) (s : ByteArray) (hs : s.size ≤ maxLen) (now : Int) {r : Str × Sess} {c : Int} (hc : findC UA s.data.toList now = c) (hr : getR UA s.data.toList now = r) :
    Calls Try.prog 13 #[.pointer (some ⟨sa, 0, none⟩), .string s, .int .i64 now] w fun e w' => Got w w' e r c := by
  obtain ⟨XA, XB, h1, rfl, _⟩ := h.two
  subst hc
  subst hr
  exact get_any h1 s hs now
end
theorem get_congr {U V : Sss} {k : Str} (h : alook U k = alook V k) (now : Int) : getR U k now = getR V k now := by unfold getR; rw [find_congr h, h]

set_option maxHeartbeats 64000000 in
set_option maxRecDepth 100000 in
theorem kept_walk {w : World} (idle : Int) (_wi : (Lit.int .i64 idle).wf = true) (abs : Int) (_wa : (Lit.int .i64 abs).wf = true) {a : Option Addr} {cap : Nat} {l : List OpD} (h : OpsAt w a l) (id : ByteArray) (hid0 : id.size ≤ maxLen) (now : Int) (_wn : (Lit.int .i64 now).wf = true) :
    Calls Try.prog 7 #[.int .i64 idle, .int .i64 abs, .slice a l.length cap, .string id, .int .i64 now] w fun e w' => e = .returned (.bool true) ∧ Below w.heap.size w w' := by
  have H := hid h
  have hlf := h.cells.few
  unfold maxLen at hlf hid0
  have HLG := hid (light_any (cap := cap) h)
  clear h _wi _wa _wn
  cases t1 : lightB l
  · rw [t1] at HLG
    clear t1
    go_enter Try.func7, Try.ntmps7
    go_wp2_with fail
    refine HLG.out.mono ?_
    rintro e w1 ⟨rfl, k1⟩
    have K1 := hid k1
    clear k1
    go_wp2_with fail
    refine (awake_any _).mono ?_
    rintro e w99 ⟨rfl, k99⟩
    have K99 := hid ((K1.out).step k99 (by simp))
    clear k99
    go_wp2_with fail
    go_ret
    exact ⟨rfl, K99.out.bel⟩
  · rw [t1] at HLG
    obtain ⟨hl24, hsm⟩ := light_ok t1
    have HSM := hid hsm
    clear t1 hsm
    by_cases n0 : 200 < (id.size : Int)
    · skip
      go_enter Try.func7, Try.ntmps7
      go_wp2_with fail
      refine HLG.out.mono ?_
      rintro e w1 ⟨rfl, k1⟩
      have K1 := hid k1
      clear k1
      go_wp2_with fail
      refine (awake_any _).mono ?_
      rintro e w99 ⟨rfl, k99⟩
      have K99 := hid ((K1.out).step k99 (by simp))
      clear k99
      go_wp2_with fail
      go_ret
      exact ⟨rfl, K99.out.bel⟩
    · have HID := hid (show id.size ≤ maxLen by unfold maxLen; omega)
      by_cases hc : newC idle abs = 0
      · have HNW := hid (fun wq (k : Kept [] w wq) => new_st k hc)
        have HC := hid hc
        clear hc
        go_enter Try.func7, Try.ntmps7
        go_wp2_with fail
        refine HLG.out.mono ?_
        rintro e w1 ⟨rfl, k1⟩
        have K1 := hid k1
        clear k1
        go_wp2_with fail
        refine (HNW.out _ K1.out).mono ?_
        rintro e w2 ⟨sa, ma, rfl, h2⟩
        have H2 := hid h2
        clear h2 HNW
        go_wp2_with fail
        refine (new_two H2.out HC.out).mono ?_
        rintro e w3 ⟨sb, mb, rfl, h3⟩
        have H3 := hid h3
        clear h3 H2
        go_wp2_with fail
        go_loopw [15] (fun i wr => ∃ (k : Nat) (UA UB : Sss), k ≤ l.length ∧ i = .int .i64 k ∧ Two w wr (lim idle) (lim abs) sa ma UA sb mb UB ∧ alook UA id.data.toList = alook UB id.data.toList ∧ UA.length ≤ k ∧ UB.length ≤ k) (fun i _ => l.length - (intOf i).toNat)
        case atStart => exact ⟨0, [], [], Nat.zero_le _, rfl, H3.out, rfl, by simp, by simp⟩
        case round =>
          obtain ⟨k, UA, UB, hk, rfl, hst, hae, hla, hlb⟩ := hrel
          have HST := hid hst
          have HAE := hid hae
          clear hst H3 hae
          by_cases hlt : k < l.length
          · obtain ⟨b', off, rfl, hb, hc, hl1⟩ := (H.out.keptN HST.out.kept).get hlt
            have hb1 : (0 : Int) ≤ k := by omega
            have hb2 : (k : Int) < l.length := by omega
            have HSO := hid (HSM.out _ (List.getElem_mem hlt))
            have HL1 := hid hl1
            have HOC := hid (fun wq (kq : Kept [] w wq) => ((H.out.keptN kq).get hlt))
            clear hl1
            generalize l[k] = o at *
            have HDL := hid (do_len (lim idle) (lim abs) UA o)
            have HDL2 := hid (do_len (lim idle) (lim abs) UB o)
            have HCELL := hid (fun wq (kq : Kept [] w wq) => show OpCells wq b' (off + k * 8) o ∧ PrfsAt wq o.pa o.proofs by
              obtain ⟨b2, off2, e2, _, hc2, hl2⟩ := HOC.out _ kq
              injection e2 with e2; injection e2 with e2 e2'; subst e2; subst e2'
              exact ⟨hc2, hl2⟩)
            clear HOC
            have HDA := hid (do_two HST.out o HSO.out HL1.out)
            obtain ⟨d0, d1, d2, d3, d4, d5, d6, d7⟩ := hc
            by_cases hx : o.id = id.data.toList ∨ o.call = 5
            · have HNE := hid (do_same (idle := lim idle) (abs := lim abs) HST.out.good.uniq HST.out.swap.good.uniq (by omega) (by omega) o HAE.out hx)
              have HXX := hid hx
              clear hx
              go_wp2_with fail
              refine HDA.out.mono ?_
              rintro e w4 ⟨⟨a4, c4, rfl, _, _⟩, h4⟩
              have H4 := hid h4
              clear h4 d0 d1 d2 d3 d4 d5 d6 d7
              obtain ⟨⟨d0, d1, d2, d3, d4, d5, d6, d7⟩, hl4⟩ := HCELL.out _ H4.out.kept
              have HDB := hid (do_two H4.out.swap o HSO.out hl4)
              clear hl4
              have hx := HXX.out
              by_cases ki : o.id = id.data.toList
              · have kib : (o.id == id.toList) = true := by rw [ByteArray.toList_eq]; simpa using ki
                clear ki hx
                go_wp2_with fail
                refine HDB.out.mono ?_
                rintro e w5 ⟨⟨a5, c5, rfl, _, _⟩, h5⟩
                have H5 := hid h5.swap
                clear h5
                go_wp2_with fail
                go_roundw
                case rel => exact ⟨k + 1, _, _, by omega, by go_num, H5.out, HNE.out, by have := HDL.out; omega, by have := HDL2.out; omega⟩
                case measure => simp [intOf]; omega
              · have kib : (o.id == id.toList) = false := by rw [ByteArray.toList_eq]; simpa using ki
                have k5 := hx.resolve_left ki
                have k5b : (o.call == 5) = true := by rw [beq_iff_eq]; exact k5
                clear ki k5 hx
                go_wp2_with fail
                refine HDB.out.mono ?_
                rintro e w5 ⟨⟨a5, c5, rfl, _, _⟩, h5⟩
                have H5 := hid h5.swap
                clear h5
                go_wp2_with fail
                go_roundw
                case rel => exact ⟨k + 1, _, _, by omega, by go_num, H5.out, HNE.out, by have := HDL.out; omega, by have := HDL2.out; omega⟩
                case measure => simp [intOf]; omega
            · have ki : o.id ≠ id.data.toList := fun e => hx (.inl e)
              have k5 : o.call ≠ 5 := fun e => hx (.inr e)
              have HNE := hid ((do_other (lim idle) (lim abs) UA o ki k5).trans HAE.out)
              have kib : (o.id == id.toList) = false := by rw [ByteArray.toList_eq]; simpa using ki
              have k5b : (o.call == 5) = false := by rw [beq_eq_false_iff_ne]; exact k5
              clear ki k5 hx
              go_wp2_with fail
              refine HDA.out.mono ?_
              rintro e w4 ⟨⟨a4, c4, rfl, _, _⟩, h4⟩
              have H4 := hid h4
              clear h4 d0 d1 d2 d3 d4 d5 d6 d7
              obtain ⟨⟨d0, d1, d2, d3, d4, d5, d6, d7⟩, hl4⟩ := HCELL.out _ H4.out.kept
              go_wp2_with fail
              go_roundw
              case rel => exact ⟨k + 1, _, _, by omega, by go_num, H4.out, HNE.out, by have := HDL.out; omega, by omega⟩
              case measure => simp [intOf]; omega
          · obtain ⟨r, HR⟩ : ∃ r, Hid (getR UB id.data.toList now = r) := ⟨_, hid rfl⟩
            obtain ⟨c, HC2⟩ : ∃ c, Hid (findC UB id.data.toList now = c) := ⟨_, hid rfl⟩
            have HR1 := hid ((get_congr HAE.out now).trans HR.out)
            have HC1 := hid ((find_congr HAE.out now).trans HC2.out)
            have qc : (c == c) = true := beq_self_eq_true _
            have HG1 := hid (get_two HST.out id HID.out now HC1.out HR1.out)
            go_wp2_with fail
            refine HG1.out.mono ?_
            rintro e w4 ⟨pa4, pc4, ca4, cc4, rfl, s4, t4, _, _, k4⟩
            have hb4 := heap_alloc_new w4 (.cells #[.string ⟨r.1.toArray⟩, .string ⟨r.2.user.toArray⟩, .string ⟨r.2.tenant.toArray⟩, .string ⟨r.2.device.toArray⟩, .int .i64 r.2.started, .int .i64 r.2.seen, .int .i64 r.2.until_, .slice pa4 r.2.proofs.length pc4, .slice ca4 r.2.clients.length cc4] 33 (0, 0))
            have ha4 := k4.alloc (.cells #[.string ⟨r.1.toArray⟩, .string ⟨r.2.user.toArray⟩, .string ⟨r.2.tenant.toArray⟩, .string ⟨r.2.device.toArray⟩, .int .i64 r.2.started, .int .i64 r.2.seen, .int .i64 r.2.until_, .slice pa4 r.2.proofs.length pc4, .slice ca4 r.2.clients.length cc4] 33 (0, 0))
            have hs4 := s4.keptN ((Kept.refl [] w4).alloc (.cells #[.string ⟨r.1.toArray⟩, .string ⟨r.2.user.toArray⟩, .string ⟨r.2.tenant.toArray⟩, .string ⟨r.2.device.toArray⟩, .int .i64 r.2.started, .int .i64 r.2.seen, .int .i64 r.2.until_, .slice pa4 r.2.proofs.length pc4, .slice ca4 r.2.clients.length cc4] 33 (0, 0)))
            have ht4 := t4.keptN ((Kept.refl [] w4).alloc (.cells #[.string ⟨r.1.toArray⟩, .string ⟨r.2.user.toArray⟩, .string ⟨r.2.tenant.toArray⟩, .string ⟨r.2.device.toArray⟩, .int .i64 r.2.started, .int .i64 r.2.seen, .int .i64 r.2.until_, .slice pa4 r.2.proofs.length pc4, .slice ca4 r.2.clients.length cc4] 33 (0, 0)))
            obtain ⟨b4, HBB4⟩ : ∃ b, Hid (b = w4.heap.size) := ⟨_, hid rfl⟩
            obtain ⟨w4b, HW4⟩ : ∃ v, Hid (v = w4.alloc (.cells #[.string ⟨r.1.toArray⟩, .string ⟨r.2.user.toArray⟩, .string ⟨r.2.tenant.toArray⟩, .string ⟨r.2.device.toArray⟩, .int .i64 r.2.started, .int .i64 r.2.seen, .int .i64 r.2.until_, .slice pa4 r.2.proofs.length pc4, .slice ca4 r.2.clients.length cc4] 33 (0, 0))) := ⟨_, hid rfl⟩
            rw [← HW4.out] at hb4 ha4 hs4 ht4
            rw [← HBB4.out] at hb4
            have HB4 := hid hb4
            have HS4 := hid hs4
            have HT4 := hid ht4
            have H4 := hid (HST.out.keptN ha4)
            have HG2 := hid (get_two H4.out.swap id HID.out now HC2.out HR.out)
            clear hb4 ha4 hs4 ht4 s4 t4 k4
            go_wp2_with fail
            rw [← HW4.out, ← HBB4.out]
            refine HG2.out.mono ?_
            rintro e w5 ⟨pa5, pc5, ca5, cc5, rfl, s5, t5, _, _, k5⟩
            have hb5 := heap_alloc_new w5 (.cells #[.string ⟨r.1.toArray⟩, .string ⟨r.2.user.toArray⟩, .string ⟨r.2.tenant.toArray⟩, .string ⟨r.2.device.toArray⟩, .int .i64 r.2.started, .int .i64 r.2.seen, .int .i64 r.2.until_, .slice pa5 r.2.proofs.length pc5, .slice ca5 r.2.clients.length cc5] 33 (0, 0))
            have ka := (Kept.refl [] w5).alloc (.cells #[.string ⟨r.1.toArray⟩, .string ⟨r.2.user.toArray⟩, .string ⟨r.2.tenant.toArray⟩, .string ⟨r.2.device.toArray⟩, .int .i64 r.2.started, .int .i64 r.2.seen, .int .i64 r.2.until_, .slice pa5 r.2.proofs.length pc5, .slice ca5 r.2.clients.length cc5] 33 (0, 0))
            have hs5 := s5.keptN ka
            have ht5 := t5.keptN ka
            have hs6 := HS4.out.keptN (k5.step ka (by simp))
            have ht6 := HT4.out.keptN (k5.step ka (by simp))
            have H5 := hid (H4.out.keptN (k5.step ka (by simp)))
            have hb6 := (k5.step ka (by simp)).at HB4.out (by simp)
            obtain ⟨a0, a1, a2, a3, a4, a5, a6, a7, a8, _⟩ := nine_cells hb6
            obtain ⟨g0, g1, g2, g3, g4, g5, g6, g7, g8, _⟩ := nine_cells hb5
            have HSX := hid (sameX_any r hs6 hs5 ht6 ht5 (pc1 := pc4) (pc2 := pc5) (cc1 := cc4) (cc2 := cc5))
            clear s5 t5 k5 hs5 ht5 hs6 ht6 hb6 hb5 ka
            go_wp2_with fail
            refine HSX.out.mono ?_
            rintro e w6 ⟨rfl, k6⟩
            have K6 := hid (H5.out.kept.step k6 (by simp))
            clear k6
            go_wp2_with fail
            refine (awake_any _).mono ?_
            rintro e w99 ⟨rfl, k99⟩
            have K99 := hid ((K6.out).step k99 (by simp))
            clear k99
            go_wp2_with fail
            go_ret
            exact ⟨rfl, K99.out.bel⟩
      · have HNW := hid (fun wq => new_bad hc wq)
        have hcb : (newC idle abs != 0) = true := by simpa using hc
        have hcc : (newC idle abs == newC idle abs) = true := beq_self_eq_true _
        generalize newC idle abs = c at *
        clear hc
        go_enter Try.func7, Try.ntmps7
        go_wp2_with fail
        refine HLG.out.mono ?_
        rintro e w1 ⟨rfl, k1⟩
        have K1 := hid k1
        clear k1
        go_wp2_with fail
        refine (HNW.out _).mono ?_
        rintro e w2 ⟨rfl, rfl⟩
        go_wp2_with fail
        refine (HNW.out _).mono ?_
        rintro e w2 ⟨rfl, rfl⟩
        go_wp2_with fail
        refine (awake_any _).mono ?_
        rintro e w99 ⟨rfl, k99⟩
        have K99 := hid ((K1.out).step k99 (by simp))
        clear k99
        go_wp2_with fail
        go_ret
        exact ⟨rfl, K99.out.bel⟩
end Go.Proofs.Ytakccoiecmibcaa
