/- Given of the program: the keys in order, of those that are given up. -/
import Derived.Test.YtdikijbkfhimoaaStatus
import Derived.Test.YtdikijbkfhimoaaSort
import Derived.Test.YtdikijbkfhimoaaIter
namespace Go.Proofs.Ytdikijbkfhimoaa
open Go.RowKit Go.Maps

theorem field_not (w : World) (a b : Int) : (Instr.field 73 (.agg #[.int .i64 a, .int .i64 b]) 0).run Try.prog w = .ok (.int .i64 a) w := by kernel_rfl
/-- It is not given up. -/
def notG (N : Notes) (c : Str) : Bool := match alook N c with
  | none => true
  | some n => !decide (n.1 = 3)
set_option maxHeartbeats 400000 in
theorem given1_any {w : World} {pb mb2 : Nat} {N : Notes} (hc : w.cell? ⟨pb, 0, none⟩ = some (.map (some mb2))) (hN : MapS w mb2 (N.map nent)) (x : Str) (hx : x.length ≤ 1000000) :
    Calls Try.prog 53 #[sV x, .pointer (some ⟨pb, 0, none⟩)] w fun e w' => e = .returned (.bool (notG N x)) ∧ w = w' := by
  have hl := mapN_look hN ⟨x.toArray⟩ (by simp [ByteArray.size, maxLen]; omega)
  rw [sized] at hl
  have hf := field_not
  unfold sV
  cases hn : alook N x with
  | none =>
    have E := hid (show notG N x = true by unfold notG; rw [hn])
    rw [E.out]
    rw [hn] at hl
    unfold nval at hl
    go_enter Try.func53, Try.ntmps53
    go_wp2_with fail
    go_ret
    exact ⟨rfl, rfl⟩
  | some n =>
    rw [hn] at hl
    unfold nval at hl
    obtain ⟨n1, n2⟩ := n
    by_cases h3 : n1 = 3
    · subst h3
      have E := hid (show notG N x = false by unfold notG; rw [hn]; rfl)
      rw [E.out]
      go_enter Try.func53, Try.ntmps53
      go_wp2_with fail
      go_ret
      exact ⟨rfl, rfl⟩
    · have E := hid (show notG N x = true by unfold notG; rw [hn]; simp [h3])
      rw [E.out]
      go_enter Try.func53, Try.ntmps53
      go_wp2_with fail
      go_ret
      exact ⟨ret_bool (by simpa using h3), rfl⟩
set_option maxHeartbeats 400000 in
theorem given1_nil {w : World} {pb : Nat} (hc : w.cell? ⟨pb, 0, none⟩ = some (.map none)) (x : Str) (hx : x.length ≤ 1000000) :
    Calls Try.prog 53 #[sV x, .pointer (some ⟨pb, 0, none⟩)] w fun e w' => e = .returned (.bool true) ∧ w = w' := by
  have hl : (Instr.lookup 67 (.map none) (.string ⟨x.toArray⟩) false).run Try.prog w = .ok (.agg #[.int .i64 0, .int .i64 0]) w :=
    Maps.look_nil false lawS Try.underlying67 (zeroNot w) (WideMaps.keyOf_string_mk Try.underlying9 (by simp [ByteArray.size, maxLen]; omega))
  have hf := field_not
  unfold sV
  go_enter Try.func53, Try.ntmps53
  go_wp2_with fail
  go_ret
  exact ⟨rfl, rfl⟩
set_option maxHeartbeats 400000 in
theorem indexFunc_any (pb : Nat) (pr : Str → Bool) {w : World} {a : Option Addr} {cap : Nat} {l : List Str} (h : StrsAt w a l) (hz : ∀ x ∈ l, x.length ≤ 1000000) (hcl : ∀ x : Str, x.length ≤ 1000000 → Calls Try.prog 53 #[sV x, .pointer (some ⟨pb, 0, none⟩)] w fun e w' => e = .returned (.bool (pr x)) ∧ w = w') :
    Calls Try.prog 65 #[.slice a l.length cap, .func (.func 53) #[] #[.pointer (some ⟨pb, 0, none⟩)]] w fun e w' => e = .returned (.int .i64 (idx pr l)) ∧ w = w' := by
  have hf := h.few
  unfold maxLen at hf
  go_enter Try.func65, Try.ntmps65
  go_wp2_with fail
  go_loop [5, 8] (fun _ i => ∃ k : Nat, k ≤ l.length ∧ i = .int .i64 k ∧ NoneTo pr l k) (fun _ i => l.length - (intOf i).toNat)
  case atStart => exact ⟨0, Nat.zero_le _, rfl, NoneTo.zero _ _⟩
  case round =>
    obtain ⟨k, hk, rfl, hn⟩ := hrel
    by_cases hlt : k < l.length
    · obtain ⟨b, off, rfl, hb, hc⟩ := h.get hlt
      have hb1 : (0 : Int) ≤ k := by omega
      have hb2 : (k : Int) < l.length := by omega
      have HC := hid (hcl l[k] (hz _ (List.getElem_mem hlt)))
      cases hp : pr l[k]
      · have HP := hid hp
        rw [hp] at HC
        clear hp
        go_wp2_with (go_at_call 53; refine HC.out.mono ?_; rintro e w1 ⟨rfl, rfl⟩)
        go_round
        case rel => exact ⟨k + 1, by omega, by go_num, hn.next hlt HP.out⟩
        case measure => simp [intOf]; omega
      · have HP := hid hp
        rw [hp] at HC
        clear hp
        go_wp2_with (go_at_call 53; refine HC.out.mono ?_; rintro e w1 ⟨rfl, rfl⟩)
        go_ret
        exact ⟨ret_int (by rw [idx_yes hn hlt HP.out]), rfl⟩
    · have hx := hid (idx_no (hn.all (by omega)))
      go_wp2_with fail
      go_ret
      exact ⟨ret_int hx.out.symm, rfl⟩

theorem row_getS {w : World} {g n cap : Nat} {l : List Str} (h : w.ownsRow 0 9 1 (.slice (some ⟨g, 0, none⟩) n cap) n (rowV encS l)) {j : Nat} (hj : j < l.length) : w.cell? ⟨g, j, none⟩ = some (sV l[j]) := by
  have := rowV_get encSOk l j 0 hj (by omega)
  rw [Nat.mul_one, Nat.add_zero] at this
  exact row_cell h this
theorem rowV_setS (l : List Str) (i : Nat) (x : Str) : rowV encS (l.set i x) = (rowV encS l).set i (sV x) := by
  rw [rowV_map, rowV_map, List.map_set]

set_option maxHeartbeats 2000000 in
set_option maxRecDepth 100000 in
theorem delete_any (pb : Nat) (pr : Str → Bool) {w0 w : World} {a : Option Addr} {cap : Nat} {l : List Str} (h : OwnL 9 1 encS w0 w a cap l) (hlen : l.length ≤ 100000) (hz : ∀ x ∈ l, x.length ≤ 1000000)
    (hcl : ∀ wq, Kept (fp a) w wq → ∀ x : Str, x.length ≤ 1000000 → Calls Try.prog 53 #[sV x, .pointer (some ⟨pb, 0, none⟩)] wq fun e w' => e = .returned (.bool (pr x)) ∧ wq = w') :
    Calls Try.prog 50 #[.slice a l.length cap, .func (.func 53) #[] #[.pointer (some ⟨pb, 0, none⟩)]] w fun e w' => ∃ a' cap', e = .returned (.slice a' (delP pr l).length cap') ∧ OwnL 9 1 encS w0 w' a' cap' (delP pr l) := by
  have HX := hid (indexFunc_any (cap := cap) pb pr (h.seq encSOk) hz (hcl w (Kept.refl _ _)))
  rcases idx_split (p := pr) (l := l) with ⟨e, hn⟩ | ⟨i0, hi0, e, hp, hn⟩
  · have E := hid (delP_none hn)
    rw [e] at HX
    clear e
    go_enter Try.func50, Try.ntmps50
    go_wp2_with (go_at_call 65; refine HX.out.mono ?_; rintro e w1 ⟨rfl, rfl⟩)
    go_ret
    rw [E.out]
    exact ⟨a, cap, rfl, h⟩
  · rw [e] at HX
    clear e
    have HM := hid (Mix.start hi0 hp hn)
    have hne : ((i0 : Int) == -1) = false := by rw [beq_eq_false_iff_ne]; omega
    obtain ⟨g, cur, rfl, hg, hncap, hcm, _⟩ := row_some h.row (by omega)
    have hgw := lt_of_heap hg
    have hgn : w0.heap.size ≤ g := h.new g (by simp [fp])
    have hr0 := h.row
    have hk0 := h.kept
    unfold maxLen at hcm
    have HCC := hid hcl
    clear hcl
    clear h hp hn
    go_enter Try.func50, Try.ntmps50
    go_wp2_with (go_at_call 65; refine HX.out.mono ?_; rintro e w1 ⟨rfl, rfl⟩)
    go_loopw [5, 6] (fun iv jv wr => ∃ (i j : Nat) (mix : List Str), iv = .int .i64 i ∧ jv = .int .i64 j ∧ Hid (Mix pr l mix i j) ∧ wr.ownsRow 0 9 1 (.slice (some ⟨g, 0, none⟩) l.length cap) l.length (rowV encS mix) ∧ Kept [g] w wr) (fun _ jv _ => l.length - (intOf jv).toNat)
    case atStart => exact ⟨i0, i0 + 1, l, rfl, by first | rfl | go_num, HM, hr0, Kept.refl _ _⟩
    case round =>
      obtain ⟨i, j, mix, rfl, rfl, HMx, hrow, hkw⟩ := hrel
      have hij := HMx.out.lt
      have hjl := HMx.out.le
      by_cases hlt : j < l.length
      · obtain ⟨hjm, hmj⟩ := HMx.out.get hlt
        have hc0 := row_getS hrow hjm
        rw [hmj] at hc0
        have hb1 : (0 : Int) ≤ j := by omega
        have hb2 : (j : Int) < l.length := by omega
        have hi1 : (0 : Int) ≤ i := by omega
        have hi2 : (i : Int) < l.length := by omega
        have HC := hid (HCC.out wr hkw l[j] (hz _ (List.getElem_mem hlt)))
        unfold sV at hc0 HC
        cases hp2 : pr l[j]
        · have HM2 := hid (HMx.out.put hlt hp2)
          rw [hp2] at HC
          clear hp2
          have him : i < mix.length := by omega
          have z0 := row_getS hrow him
          have fz0 := hrow.frozenAt i
          unfold sV at z0
          clear hmj
          go_wp2_with (go_at_call 53; refine HC.out.mono ?_; rintro e w2 ⟨rfl, rfl⟩)
          go_roundw
          case rel =>
            have hr2 := (hrow.stored i (sV l[j])).1
            rw [← rowV_setS mix i] at hr2
            exact ⟨i + 1, j + 1, _, by go_num, by go_num, HM2, hr2, hkw.setCell (.inl (by simp)) _⟩
          case measure => simp [intOf]; omega
        · have HM2 := hid (HMx.out.skip hlt hp2)
          rw [hp2] at HC
          clear hp2
          go_wp2_with (go_at_call 53; refine HC.out.mono ?_; rintro e w2 ⟨rfl, rfl⟩)
          go_roundw
          case rel => exact ⟨i, j + 1, mix, rfl, by go_num, HM2, hrow, hkw⟩
          case measure => simp [intOf]; omega
      · obtain rfl : j = l.length := by omega
        obtain ⟨g', cur, e, hg', _, _, hcs, htk⟩ := row_some hrow (by omega)
        injection e with e; injection e with e
        subst e
        have hfr := HMx.out.front
        rw [List.take_length] at hfr
        have hlen2 : (delP pr l).length = i := by rw [← hfr]; simp; have := HMx.out.len; omega
        have hcl := fun ty => run_clear_own (P := Try.prog) wr 32 9 ty (.string ⟨#[]⟩) Try.underlying32 (fun _ => by kernel_rfl) (by decide) (by decide) g i (l.length - i) (cap - i) (by omega) cur hg' (by rw [hcs]; simp [Value.cells]; omega)
        have hi1 : (0 : Int) ≤ i := by omega
        have hi2 : (i : Int) ≤ l.length := by omega
        have hi3 : (l.length : Int) ≤ cap := by omega
        have hi4 : (i : Int) ≤ cap := by omega
        have HF := hid hfr
        have HL2 := hid hlen2
        have HT := hid htk
        have HCS := hid hcs
        clear hfr hlen2 htk hcs
        go_wp2_with fail
        go_ret
        rw [HL2.out]
        refine ⟨some ⟨g, 0, none⟩, cap, rfl, ?_⟩
        have := row_cleared encSOk (i := i) (n := l.length) (rest := (Builtin.zeroCells (Value.string ⟨#[]⟩).cells (l.length - i)).toList ++ cur.toList.drop (i + (l.length - i) * 1)) rfl hg' HCS.out HT.out (by omega) hncap (by unfold maxLen; omega) HF.out HL2.out (by simp [Builtin.zeroCells, HCS.out, Value.cells]; omega) hk0 hkw hgn
        rw [Nat.mul_one] at this
        simpa [Value.cells] using this

theorem strKeys_perm {D : DataW Value} {L : List REnt} (h : RSim D L) : (strKeys D).Perm (L.map (·.1)) := by
  obtain ⟨es, rfl, h1, h2, h3⟩ := h
  have hp : es.Perm (L.map rentD) := by
    refine (List.perm_ext_iff_of_nodup ?_ ?_).2 (fun q => ?_)
    · exact h1.imp (fun {a b} hab e => hab (by rw [e]))
    · rw [List.nodup_iff_pairwise_ne, List.pairwise_map]
      exact h2.imp (fun {a b} hab e => hab (by simpa [rentD] using (Prod.ext_iff.1 e).1))
    · rw [h3, List.mem_map]
      exact ⟨fun ⟨p, hp, e⟩ => ⟨p, hp, e.symm⟩, fun ⟨p, hp, e⟩ => ⟨p, hp, e.symm⟩⟩
  have := hp.map (fun p : Lit × DataW Value => strOf p.1)
  rw [List.map_map] at this
  exact this
def keysS (N : Notes) : List Str := sortS (N.map (·.1))
theorem sorted_any {W : World} {mb2 : Nat} {N : Notes} (h : MapS W mb2 (N.map nent)) (hl : N.length ≤ 256) :
    Calls Try.prog 51 #[.func (.func 68) #[] #[.pointer (some ⟨W.heap.size, 0, none⟩)]] (W.alloc (.cells #[.map (some mb2)] 67)) fun e w' => ∃ a cap, e = .returned (.slice a (keysS N).length cap) ∧ OwnL 9 1 encS (W.alloc (.cells #[.map (some mb2)] 67)) w' a cap (keysS N) := by
  obtain ⟨D, ho, hD⟩ := h.map
  have hsz := hD.size
  rw [List.length_map] at hsz ho
  refine (callsIn_wide.1 (slices_Sorted_keys_51_52 mb2 _ D rawElem W ho (by rw [hsz]; unfold maxLen; omega) (by rw [hsz]; omega))).mono ?_
  rintro e w' ⟨v, ss, rfl, hp, hrow, hnil, hb⟩
  have hk : Kept [] (W.alloc (.cells #[.map (some mb2)] 67)) w' := ⟨hb.os, hb.tape, hb.output, hb.size, fun k hk _ => hb.block k hk⟩
  have hpk : ss.Perm (N.map (·.1)) := by
    refine hp.trans ((strKeys_perm hD).trans ?_)
    rw [List.map_map]
    exact List.Perm.refl _
  have hse : sortS ss = keysS N := sortS_of_perm hpk
  have hlen : ss.length = (keysS N).length := by rw [← hse, sortS_len]
  have hxs : (ss.mergeSort fun x y => decide (x ≤ y)).map Go.Proofs.encStr = rowV encS (keysS N) := by
    rw [rowV_map, ← hse]; rfl
  rw [hxs] at hrow
  obtain ⟨r1, r2⟩ := hrow
  rw [hlen] at r1 r2
  rcases r2 with ⟨rfl, h0⟩ | ⟨g, cap, cur, rfl, hg, hb2, rest⟩
  · refine ⟨none, 0, by rw [h0], ⟨⟨r1, .inl ⟨by rw [h0], h0⟩⟩, hk, by simp [fp]⟩⟩
  · exact ⟨_, cap, rfl, ⟨⟨r1, .inr ⟨g, cap, cur, rfl, Nat.zero_le _, hb2, rest⟩⟩, hk, fun i hi => by simp only [fp, List.mem_singleton] at hi; rw [hi]; exact hg⟩⟩
theorem sorted_nil (W : World) :
    Calls Try.prog 51 #[.func (.func 68) #[] #[.pointer (some ⟨W.heap.size, 0, none⟩)]] (W.alloc (.cells #[.map none] 67)) fun e w' => e = .returned (.slice none 0 0) ∧ Kept [] (W.alloc (.cells #[.map none] 67)) w' := by
  refine (callsIn_wide.1 (slices_Sorted_keys_nil_51_52 W)).mono ?_
  rintro e w' ⟨v, ss, rfl, rfl, hrow, hnil, hb⟩
  exact ⟨by rw [hnil.2 rfl], ⟨hb.os, hb.tape, hb.output, hb.size, fun k hk _ => hb.block k hk⟩⟩
/-- What Given answers. -/
def givenL (U : Log) (s : Str) : List Str := match alook U s with
  | none => []
  | some x => delP (notG x.2) (keysS x.2)
theorem keysS_mem {N : Notes} {c : Str} (h : c ∈ keysS N) : ∃ n, (c, n) ∈ N := by
  unfold keysS at h
  rw [(sortS_perm _).mem_iff, List.mem_map] at h
  obtain ⟨p, hp, rfl⟩ := h
  exact ⟨p.2, hp⟩
theorem word_len {c : Str} (h : wordB c = true) : c.length ≤ 64 := by
  unfold wordB at h
  simp at h
  exact h.2.2
set_option maxHeartbeats 4000000 in
set_option maxRecDepth 100000 in
theorem given_any {w : World} {lb mb most delay : Nat} {X : SBs} (h : LogAt w lb mb most delay X) (s : ByteArray) (hs : s.size ≤ maxLen) :
    Calls Try.prog 25 #[.pointer (some ⟨lb, 0, none⟩), .string s] w fun e w' => ∃ a cap, e = .returned (.slice a (givenL (absL X) s.data.toList).length cap) ∧ OwnL 9 1 encS w w' a cap (givenL (absL X) s.data.toList) := by
  have c2 := h.c2
  have hfd := field_end
  have hlk := h.look s hs
  cases hq : alook X s.data.toList with
  | none =>
    have E := hid (show givenL (absL X) s.data.toList = [] by unfold givenL; rw [absL_look, hq]; rfl)
    rw [E.out]
    rw [hq] at hlk
    unfold sval at hlk
    have HS := hid (sorted_nil (w.alloc (.cells #[.map none] 67)))
    rw [show (w.alloc (.cells #[.map none] 67)).heap.size = w.heap.size + 1 by simp] at HS
    have HKM := hid (fun (W : World) => callsIn_wide.1 (maps_Keys_52 none W))
    have HD := hid (fun (W : World) (k : Kept [] (w.alloc (.cells #[.map none] 67)) W) => delete_any (cap := 0) w.heap.size (fun _ => true) (OwnL.start W) (by simp) (by simp) (fun wq kq x hx => given1_nil (by
      have hb := (k.step kq (by simp [fp])).at (heap_alloc_new w (.cells #[.map none] 67)) (by simp)
      rw [cell_at hb]; rfl) x hx))
    clear h hq
    go_enter Try.func25, Try.ntmps25
    go_wp2_with (first
      | (go_at_call 34; refine (ready_any c2).mono ?_; rintro e w' ⟨rfl, rfl⟩)
      | (go_at_call 52; refine (HKM.out _).mono ?_; rintro e w' ⟨rfl, rfl⟩)
      | (go_at_call 51; refine HS.out.mono ?_; rintro e w4 ⟨rfl, k4⟩))
    refine (HD.out _ (((Kept.refl [] _).alloc _).step k4 (by simp))).mono ?_
    rintro e w5 ⟨a5, c5, rfl, o5⟩
    have O5 := hid o5
    clear o5
    go_wp2_with fail
    go_ret
    exact ⟨a5, c5, rfl, O5.out.rebase ((((Kept.refl [] w).alloc _).alloc _).step k4 (by simp))⟩
  | some x =>
    obtain ⟨mb2, at_, N⟩ := x
    have hmem := alook_some hq
    have hN := h.each _ hmem
    have hfx := h.fine hmem
    have hlen : N.length ≤ 256 := hfx.len
    have hlt2 : mb2 < w.heap.size := hN.lt
    have E := hid (show givenL (absL X) s.data.toList = delP (notG N) (keysS N) by unfold givenL; rw [absL_look, hq]; rfl)
    rw [E.out]
    rw [hq] at hlk
    unfold sval sesV at hlk
    have HS := hid (sorted_any (W := w.alloc (.cells #[.map (some mb2)] 67)) (hN.kept ((Kept.refl [] w).alloc _) (by simp)) hlen)
    rw [show (w.alloc (.cells #[.map (some mb2)] 67)).heap.size = w.heap.size + 1 by simp] at HS
    have HKM := hid (fun (W : World) => callsIn_wide.1 (maps_Keys_52 (some mb2) W))
    have hkl : (keysS N).length ≤ 256 := by unfold keysS; rw [sortS_len, List.length_map]; exact hlen
    have HZ := hid (fun (x : Str) (hx : x ∈ keysS N) => show x.length ≤ 1000000 from by
      obtain ⟨n, hm⟩ := keysS_mem hx
      have := word_len (hfx.word _ hm)
      simp only at this
      omega)
    have HD := hid (fun (a4 : Option Addr) (c4 : Nat) (w4 : World) (o4 : OwnL 9 1 encS ((w.alloc (.cells #[.map (some mb2)] 67)).alloc (.cells #[.map (some mb2)] 67)) w4 a4 c4 (keysS N)) =>
      delete_any w.heap.size (notG N) o4 (by omega) HZ.out (fun wq kq x hx => by
        have hb := (((Kept.refl [] (w.alloc (.cells #[.map (some mb2)] 67))).alloc (.cells #[.map (some mb2)] 67)).step o4.kept (by simp)).at (heap_alloc_new w (.cells #[.map (some mb2)] 67)) (by simp)
        have hn4 : ∀ i ∈ fp a4, w.heap.size + 2 ≤ i := fun i hi => by have := o4.new i hi; simp at this; omega
        have hb2 := kq.at hb (fun hi => by have := hn4 _ hi; omega)
        have hM := ((hN.kept (((Kept.refl [] w).alloc (.cells #[.map (some mb2)] 67)).alloc (.cells #[.map (some mb2)] 67)) (by simp)).kept o4.kept (by simp)).kept kq (fun hi => by have h9 : w.heap.size + 2 ≤ mb2 := hn4 _ hi; omega)
        exact given1_any (by rw [cell_at hb2]; rfl) hM x hx))
    clear h hq hmem hN hfx hlt2 hkl
    go_enter Try.func25, Try.ntmps25
    go_wp2_with (first
      | (go_at_call 34; refine (ready_any c2).mono ?_; rintro e w' ⟨rfl, rfl⟩)
      | (go_at_call 52; refine (HKM.out _).mono ?_; rintro e w' ⟨rfl, rfl⟩)
      | (go_at_call 51; refine HS.out.mono ?_; rintro e w4 ⟨a4, c4, rfl, o4⟩; have O4 := hid o4; clear o4)
      | (go_at_call 50; refine (HD.out a4 c4 w4 O4.out).mono ?_; rintro e w5 ⟨a5, c5, rfl, o5⟩; have O5 := hid o5; clear o5))
    go_ret
    exact ⟨a5, c5, rfl, O5.out.rebase (((Kept.refl [] w).alloc _).alloc _)⟩
end Go.Proofs.Ytdikijbkfhimoaa
