/- end, Done, Fail of the program. Printed by gen_end.py. -/
import Derived.Test.YtdikijbkfhimoaaClos
namespace Go.Proofs.Ytdikijbkfhimoaa
open Go.RowKit Go.Maps

theorem Fine.done {most : Nat} {n : Note} (h : Fine most n) : Fine most (doneN n) :=
  ⟨.inr (.inr (.inl rfl)), h.le, fun e => by simp [doneN] at e, fun e => by simp [doneN] at e⟩
theorem Fine.fail {most : Nat} {n : Note} (h : Fine most n) (h1 : n.1 = 1) : Fine most (failN most n) := by
  have hlt := h.open_ (.inr h1)
  unfold failN
  split
  · rename_i he
    exact ⟨.inr (.inr (.inr rfl)), by show n.2 + 1 ≤ most; omega, fun e => by simp at e, fun _ => he⟩
  · rename_i he
    exact ⟨.inl rfl, by show n.2 + 1 ≤ most; omega, fun _ => by show n.2 + 1 < most; omega, fun e => by simp at e⟩
theorem FineS.put {most : Nat} {x : Ses} (h : FineS most x) {c : Str} {n n' : Note} (hn : alook x.2 c = some n) (hf : Fine most n') : FineS most (x.1, aput x.2 c n') := by
  refine ⟨h.at_, aput_uniq h.uniq _ _, ?_, fun p hp => ?_, fun p hp => ?_⟩
  · show (aput x.2 c n').length ≤ 256
    rw [aput_len, hn]; exact h.len
  · rcases aput_mem3 hp with rfl | ⟨hq, _⟩
    · exact hf
    · exact h.note p hq
  · rcases aput_mem3 hp with rfl | ⟨hq, _⟩
    · show wordB c = true; exact h.word (c, n) (alook_some hn)
    · exact h.word p hq
/-- What a lookup of a notification gives. -/
def nval (o : Option Note) : Value := match o with | none => .agg #[.int .i64 0, .int .i64 0] | some n => .agg #[.int .i64 n.1, .int .i64 (n.2 : Int)]
theorem mapN_look_ok {w : World} {mb : Nat} {N : Notes} (h : MapS w mb (N.map nent)) (s : ByteArray) (hs : s.size ≤ maxLen) :
    (Instr.lookup 67 (.map (some mb)) (.string s) true).run Try.prog w = .ok (.tuple #[nval (alook N s.data.toList), .bool (alook N s.data.toList).isSome]) w := by
  rw [h.look_ok lawS Try.underlying9 Try.underlying67 (zeroNot w) s hs, rlook_nent]
  cases alook N s.data.toList <;> rfl
theorem mapN_look {w : World} {mb : Nat} {N : Notes} (h : MapS w mb (N.map nent)) (s : ByteArray) (hs : s.size ≤ maxLen) :
    (Instr.lookup 67 (.map (some mb)) (.string s) false).run Try.prog w = .ok (nval (alook N s.data.toList)) w := by
  rw [h.look lawS Try.underlying9 Try.underlying67 (zeroNot w) s hs, rlook_nent]
  cases alook N s.data.toList <;> rfl
theorem nil_look_ok (w : World) (s : ByteArray) (hs : s.size ≤ maxLen) :
    (Instr.lookup 67 (.map none) (.string s) true).run Try.prog w = .ok (.tuple #[.agg #[.int .i64 0, .int .i64 0], .bool false]) w :=
  Maps.look_nil true lawS Try.underlying67 (zeroNot w) (WideMaps.keyOf_string_mk Try.underlying9 hs)
theorem mapN_put {w : World} {mb : Nat} {N : Notes} (h : MapS w mb (N.map nent)) (hl : N.length ≤ 256) (s : ByteArray) (hs : s.size ≤ maxLen) (n : Note) :
    ∃ w', (Instr.mapUpdate 67 (.map (some mb)) (.string s) (.agg #[.int .i64 n.1, .int .i64 (n.2 : Int)])).run Try.prog w = .ok () w' ∧ MapS w' mb ((aput N s.data.toList n).map nent) ∧ Kept [mb] w w' ∧ w'.heap.size = w.heap.size := by
  obtain ⟨w', h1, h2, h3, h4⟩ := h.put lawS Try.underlying9 Try.underlying67 (by rw [List.length_map]; unfold maxLen; omega) s hs (noteV n)
  rw [rput_nent] at h2
  exact ⟨w', h1, h2, h3, h4⟩
theorem field_end (w : World) (a : Int) (r : Option Nat) : (Instr.field 69 (.agg #[.int .i64 a, .map r]) 1).run Try.prog w = .ok (.map r) w := by kernel_rfl
theorem endS {w W : World} {lb mb most delay mb2 : Nat} {X : SBs} {at_ : Int} {N : Notes} (h : LogAt w lb mb most delay X) {s : ByteArray} (hs : s.size ≤ maxLen) (hq : alook X s.data.toList = some (mb2, at_, N)) {p q : Value} (k : Kept [mb2] (w.alloc (.cells #[p, q] 73)) W) :
    W.cell? ⟨lb, 2, none⟩ = some (.map (some mb)) ∧ (Instr.lookup 55 (.map (some mb)) (.string s) false).run Try.prog W = .ok (.agg #[.int .i64 at_, .map (some mb2)]) W ∧ W.cell? ⟨w.heap.size, 0, none⟩ = some p ∧ W.cell? ⟨w.heap.size, 1, none⟩ = some q := by
  have hmem := alook_some hq
  have hlb : lb ≠ mb2 := h.lbs _ hmem
  have hmb : mb2 ≠ mb := h.out _ hmem
  have hlt : mb2 < w.heap.size := (h.each _ hmem).lt
  have hbn := k.at (heap_alloc_new w (.cells #[p, q] 73)) (by simp; omega)
  have hk0 : Kept [mb2] w W := ((Kept.refl [mb2] w).alloc _).step k (by simp)
  have hlk := (h.map.kept hk0 (by simpa using hmb.symm)).look lawS Try.underlying9 Try.underlying55 (zeroEnd W) s hs
  rw [rlook_sent, hq] at hlk
  exact ⟨(hk0.cell (p := ⟨lb, 2, none⟩) (lt_of_heap h.blk) (by simpa using hlb)).trans h.c2, hlk, cell_at hbn 0, cell_at hbn 1⟩
theorem endP {w W : World} {lb mb most delay mb2 : Nat} {X : SBs} {at_ : Int} {N : Notes} (h : LogAt w lb mb most delay X) {s c : ByteArray} (hc : c.size ≤ maxLen) (hq : alook X s.data.toList = some (mb2, at_, N)) {n' : Note} (hf : FineS most (at_, aput N c.data.toList n')) (k : Kept [] w W) :
    ∃ w', (Instr.mapUpdate 67 (.map (some mb2)) (.string c) (.agg #[.int .i64 n'.1, .int .i64 (n'.2 : Int)])).run Try.prog W = .ok () w' ∧ Kept [mb2] W w' ∧ Left w w' lb mb most delay X (aput (absL X) s.data.toList (at_, aput N c.data.toList n')) := by
  have hmem := alook_some hq
  obtain ⟨w', h1, h2, h3, h4⟩ := mapN_put ((h.each _ hmem).kept k (by simp)) (h.fine hmem).len c hc n'
  exact ⟨w', h1, h3, h.left hq ((k.mono (T := [mb2]) (by simp)).step h3 (by simp)) h2 hf⟩
theorem cell_lt {w : World} {b i : Nat} {v : Value} (c : w.cell? ⟨b, i, none⟩ = some v) : b < w.heap.size := by
  by_cases h : b < w.heap.size
  · exact h
  · simp [World.cell?, Array.getElem?_eq_none (by omega : w.heap.size ≤ b)] at c
theorem noteAt_none {U : Log} {s c : Str} (h : alook U s = none) : noteAt U s c = none := by unfold noteAt; rw [h]; rfl
theorem noteAt_some {U : Log} {s c : Str} {x : Ses} (h : alook U s = some x) : noteAt U s c = alook x.2 c := by unfold noteAt; rw [h]; rfl
set_option maxHeartbeats 4000000 in
set_option maxRecDepth 100000 in
theorem end_done {w : World} {lb mb most delay : Nat} {X : SBs} (h : LogAt w lb mb most delay X) (s c : ByteArray) (hs : s.size ≤ maxLen) (hc : c.size ≤ maxLen) :
    Calls Try.prog 46 #[.pointer (some ⟨lb, 0, none⟩), .string s, .string c, .func (.func 47) #[] #[]] w fun e w' => e = .returned (.int .i64 (endE (absL X) s.data.toList c.data.toList)) ∧ Left w w' lb mb most delay X (endU (doneN) (absL X) s.data.toList c.data.toList) := by
  have c2 := h.c2
  have HH := hid h
  have hfd := field_end
  have hlk := h.look s hs
  cases hq : alook X s.data.toList with
  | none =>
    have hna : noteAt (absL X) s.data.toList c.data.toList = none := noteAt_none (by rw [absL_look, hq]; rfl)
    have E := hid (show endE (absL X) s.data.toList c.data.toList = 6 by unfold endE; rw [hna])
    have EV := hid (show endU (doneN) (absL X) s.data.toList c.data.toList = absL X by unfold endU; rw [hna])
    rw [E.out, EV.out]
    rw [hq] at hlk
    unfold sval at hlk
    have hnl := nil_look_ok w c hc
    clear h hq hna
    go_enter Try.func46, Try.ntmps46
    go_wp2_with (go_at_call 34; refine (ready_any c2).mono ?_; rintro e w' ⟨rfl, rfl⟩)
    go_ret
    refine ⟨rfl, Left.same HH.out ?_⟩
    exact (Kept.refl [] w).alloc _
  | some x =>
    obtain ⟨mb2, at_, N⟩ := x
    have hmem := alook_some hq
    have hN := h.each _ hmem
    have hna : noteAt (absL X) s.data.toList c.data.toList = alook N c.data.toList := noteAt_some (by rw [absL_look, hq]; rfl)
    have hl2 := mapN_look_ok hN c hc
    rw [hq] at hlk
    unfold sval sesV at hlk
    cases hn : alook N c.data.toList with
    | none =>
      rw [hn] at hna hl2
      unfold nval at hl2
      have E := hid (show endE (absL X) s.data.toList c.data.toList = 6 by unfold endE; rw [hna])
      have EV := hid (show endU (doneN) (absL X) s.data.toList c.data.toList = absL X by unfold endU; rw [hna])
      rw [E.out, EV.out]
      clear h hq hna hmem hN hn
      go_enter Try.func46, Try.ntmps46
      go_wp2_with (go_at_call 34; refine (ready_any c2).mono ?_; rintro e w' ⟨rfl, rfl⟩)
      go_ret
      refine ⟨rfl, Left.same HH.out ?_⟩
      exact (Kept.refl [] w).alloc _
    | some n =>
      rw [hn] at hna hl2
      unfold nval at hl2
      by_cases h1 : n.1 = 1
      · obtain ⟨n1, nf⟩ := n
        dsimp only at h1 hl2
        subst h1
        have h1 : ((1 : Int), nf).1 = 1 := rfl
        have E := hid (show endE (absL X) s.data.toList c.data.toList = 0 by unfold endE; rw [hna]; rfl)
        have hxa : alook (absL X) s.data.toList = some (at_, N) := by rw [absL_look, hq]; rfl
        have EV := hid (show endU (doneN) (absL X) s.data.toList c.data.toList = aput (absL X) s.data.toList (at_, aput N c.data.toList (doneN (1, nf))) by unfold endU setU; rw [hna]; simp only [if_true]; rw [hxa])
        rw [E.out, EV.out]
        have hfx := h.fine hmem
        have hfn : Fine most (1, nf) := hfx.note _ (alook_some hn)
        have HF := hid (hfx.put hn (hfn.done))
        have HLT := hid (hfn.open_ (.inr h1))
        have HMO := hid HH.out.good.rm.2
        have HD0 := hid (Nat.zero_le 0)
        have HS := hid (fun (p q : Value) (W : World) (k : Kept [mb2] (w.alloc (.cells #[p, q] 73)) W) => endS HH.out hs hq k)
        have HP := hid (fun (W : World) (k : Kept [] w W) => endP HH.out hc hq HF.out k)
        clear h hq hna hmem hN hn hxa hfx hfn h1
        go_enter Try.func46, Try.ntmps46
        go_wp2_with (go_at_call 34; refine (ready_any c2).mono ?_; rintro e w' ⟨rfl, rfl⟩)
        go_region_held3 (fun W => W.cell? ⟨lb, 2, none⟩ = some (.map (some mb)) ∧ (Instr.lookup 55 (.map (some mb)) (.string s) false).run Try.prog W = .ok (.agg #[.int .i64 at_, .map (some mb2)]) W ∧ W.cell? ⟨w.heap.size, 0, none⟩ = some (.int .i64 1) ∧ W.cell? ⟨w.heap.size, 1, none⟩ = some (.int .i64 (nf : Int)))
          (first
            | exact HS.out _ _ _ (((Kept.refl [mb2] _).drew.step h4 (by simp)).step k9 (by simp))
            | exact HS.out _ _ _ ((Kept.refl [mb2] _).drew.step h4 (by simp))
            | exact HS.out _ _ _ (Kept.refl [mb2] _).drew)
          (first
            | (go_at_call 47; refine (done1_any (1, nf) _).mono ?_; rintro e w4 ⟨rfl, h4⟩; obtain ⟨w9, hr9, k9, l9⟩ := HP.out w4 (((Kept.refl [] w).alloc _).drew.step h4 (by simp)); have L9 := hid l9; clear l9; unfold doneN at hr9; replace h4 := h4.mono (T := [mb2]) (by simp)))
        all_goals go_wp2_with fail
        all_goals (go_ret; exact ⟨rfl, L9.out⟩)
      · have E := hid (show endE (absL X) s.data.toList c.data.toList = 12 by unfold endE; rw [hna]; simp [h1])
        have EV := hid (show endU (doneN) (absL X) s.data.toList c.data.toList = absL X by unfold endU; rw [hna]; simp [h1])
        rw [E.out, EV.out]
        have i1 : decide (n.1 = 1) = false := decide_eq_false h1
        clear h hq hna hmem hN hn
        go_enter Try.func46, Try.ntmps46
        go_wp2_with (go_at_call 34; refine (ready_any c2).mono ?_; rintro e w' ⟨rfl, rfl⟩)
        go_ret
        refine ⟨rfl, Left.same HH.out ?_⟩
        exact (Kept.refl [] w).alloc _
set_option maxHeartbeats 4000000 in
set_option maxRecDepth 100000 in
theorem end_fail {w : World} {lb mb most delay : Nat} {X : SBs} (h : LogAt w lb mb most delay X) (s c : ByteArray) (hs : s.size ≤ maxLen) (hc : c.size ≤ maxLen) {cb : Nat} (hcb : w.cell? ⟨cb, 0, none⟩ = some (.pointer (some ⟨lb, 0, none⟩))) :
    Calls Try.prog 46 #[.pointer (some ⟨lb, 0, none⟩), .string s, .string c, .func (.func 49) #[] #[.pointer (some ⟨cb, 0, none⟩)]] w fun e w' => e = .returned (.int .i64 (endE (absL X) s.data.toList c.data.toList)) ∧ Left w w' lb mb most delay X (endU (failN most) (absL X) s.data.toList c.data.toList) := by
  have c2 := h.c2
  have HH := hid h
  have hfd := field_end
  have hlk := h.look s hs
  cases hq : alook X s.data.toList with
  | none =>
    have hna : noteAt (absL X) s.data.toList c.data.toList = none := noteAt_none (by rw [absL_look, hq]; rfl)
    have E := hid (show endE (absL X) s.data.toList c.data.toList = 6 by unfold endE; rw [hna])
    have EV := hid (show endU (failN most) (absL X) s.data.toList c.data.toList = absL X by unfold endU; rw [hna])
    rw [E.out, EV.out]
    rw [hq] at hlk
    unfold sval at hlk
    have hnl := nil_look_ok w c hc
    clear h hq hna
    go_enter Try.func46, Try.ntmps46
    go_wp2_with (go_at_call 34; refine (ready_any c2).mono ?_; rintro e w' ⟨rfl, rfl⟩)
    go_ret
    refine ⟨rfl, Left.same HH.out ?_⟩
    exact (Kept.refl [] w).alloc _
  | some x =>
    obtain ⟨mb2, at_, N⟩ := x
    have hmem := alook_some hq
    have hN := h.each _ hmem
    have hna : noteAt (absL X) s.data.toList c.data.toList = alook N c.data.toList := noteAt_some (by rw [absL_look, hq]; rfl)
    have hl2 := mapN_look_ok hN c hc
    rw [hq] at hlk
    unfold sval sesV at hlk
    cases hn : alook N c.data.toList with
    | none =>
      rw [hn] at hna hl2
      unfold nval at hl2
      have E := hid (show endE (absL X) s.data.toList c.data.toList = 6 by unfold endE; rw [hna])
      have EV := hid (show endU (failN most) (absL X) s.data.toList c.data.toList = absL X by unfold endU; rw [hna])
      rw [E.out, EV.out]
      clear h hq hna hmem hN hn
      go_enter Try.func46, Try.ntmps46
      go_wp2_with (go_at_call 34; refine (ready_any c2).mono ?_; rintro e w' ⟨rfl, rfl⟩)
      go_ret
      refine ⟨rfl, Left.same HH.out ?_⟩
      exact (Kept.refl [] w).alloc _
    | some n =>
      rw [hn] at hna hl2
      unfold nval at hl2
      by_cases h1 : n.1 = 1
      · obtain ⟨n1, nf⟩ := n
        dsimp only at h1 hl2
        subst h1
        have h1 : ((1 : Int), nf).1 = 1 := rfl
        have E := hid (show endE (absL X) s.data.toList c.data.toList = 0 by unfold endE; rw [hna]; rfl)
        have hxa : alook (absL X) s.data.toList = some (at_, N) := by rw [absL_look, hq]; rfl
        have EV := hid (show endU (failN most) (absL X) s.data.toList c.data.toList = aput (absL X) s.data.toList (at_, aput N c.data.toList (failN most (1, nf))) by unfold endU setU; rw [hna]; simp only [if_true]; rw [hxa])
        rw [E.out, EV.out]
        have hfx := h.fine hmem
        have hfn : Fine most (1, nf) := hfx.note _ (alook_some hn)
        have HF := hid (hfx.put hn (hfn.fail h1))
        have HLT := hid (hfn.open_ (.inr h1))
        have HMO := hid HH.out.good.rm.2
        have HCB := hid (fun (W : World) (k : Kept [] w W) => (k.cell (p := ⟨cb, 0, none⟩) (cell_lt hcb) (by simp)).trans hcb)
        have HC0 := hid (fun (W : World) (k : Kept [] w W) => (k.cell (p := ⟨lb, 0, none⟩) (cell_lt HH.out.c0) (by simp)).trans HH.out.c0)
        have HS := hid (fun (p q : Value) (W : World) (k : Kept [mb2] (w.alloc (.cells #[p, q] 73)) W) => endS HH.out hs hq k)
        have HP := hid (fun (W : World) (k : Kept [] w W) => endP HH.out hc hq HF.out k)
        clear h hq hna hmem hN hn hxa hfx hfn h1
        go_enter Try.func46, Try.ntmps46
        go_wp2_with (go_at_call 34; refine (ready_any c2).mono ?_; rintro e w' ⟨rfl, rfl⟩)
        go_region_held3 (fun W => W.cell? ⟨lb, 2, none⟩ = some (.map (some mb)) ∧ (Instr.lookup 55 (.map (some mb)) (.string s) false).run Try.prog W = .ok (.agg #[.int .i64 at_, .map (some mb2)]) W ∧ W.cell? ⟨w.heap.size, 0, none⟩ = some (.int .i64 1) ∧ W.cell? ⟨w.heap.size, 1, none⟩ = some (.int .i64 (nf : Int)))
          (first
            | exact HS.out _ _ _ (((Kept.refl [mb2] _).drew.step h4 (by simp)).step k9 (by simp))
            | exact HS.out _ _ _ ((Kept.refl [mb2] _).drew.step h4 (by simp))
            | exact HS.out _ _ _ (Kept.refl [mb2] _).drew)
          (first
            | (go_at_call 49; refine (fail1_any (n := (1, nf)) HLT.out HMO.out (HCB.out _ ((Kept.refl [] w).alloc _).drew) (HC0.out _ ((Kept.refl [] w).alloc _).drew)).mono ?_; rintro e w4 ⟨rfl, h4⟩; obtain ⟨w9, hr9, k9, l9⟩ := HP.out w4 (((Kept.refl [] w).alloc _).drew.step h4 (by simp)); have L9 := hid l9; clear l9; replace h4 := h4.mono (T := [mb2]) (by simp)))
        all_goals go_wp2_with fail
        all_goals (go_ret; exact ⟨rfl, L9.out⟩)
      · have E := hid (show endE (absL X) s.data.toList c.data.toList = 12 by unfold endE; rw [hna]; simp [h1])
        have EV := hid (show endU (failN most) (absL X) s.data.toList c.data.toList = absL X by unfold endU; rw [hna]; simp [h1])
        rw [E.out, EV.out]
        have i1 : decide (n.1 = 1) = false := decide_eq_false h1
        clear h hq hna hmem hN hn
        go_enter Try.func46, Try.ntmps46
        go_wp2_with (go_at_call 34; refine (ready_any c2).mono ?_; rintro e w' ⟨rfl, rfl⟩)
        go_ret
        refine ⟨rfl, Left.same HH.out ?_⟩
        exact (Kept.refl [] w).alloc _
end Go.Proofs.Ytdikijbkfhimoaa
