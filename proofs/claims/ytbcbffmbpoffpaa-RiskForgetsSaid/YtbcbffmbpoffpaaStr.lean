/- Lists of strings: contains, clone, delete, moved; of the program and of the reference. -/
import Derived.Test.YtbcbffmbpoffpaaFind
import Derived.Test.YtbcbffmbpoffpaaWord
namespace Go.Proofs.Ytbcbffmbpoffpaa
open Go.RowKit

/-- A list has a string. -/
def eqS (x : Str) (y : Str) : Bool := y == x
def hasS (l : List Str) (x : Str) : Bool := l.any (eqS x)
theorem encSOk : Enc Try.prog 9 1 16 encS :=
  ⟨fun _ => rfl, fun x v hv => by simp [encS] at hv; subst hv; rfl, by omega, by omega, by
    obtain ⟨i0, hi, h1, h2, h3⟩ := info_parts (show (Try.prog.info? 9).map (fun i => (i.zero, i.size, i.bytes)) = some (some (.string ⟨#[]⟩), 1, 16) by kernel_rfl)
    exact ⟨i0, _, hi, h1, h2, h3, rfl⟩⟩
theorem str_eq (s : ByteArray) (x : Str) (b : Bool) (h : eqS s.data.toList x = b) : (s.toList == x) = b ∧ (x == s.toList) = b := by
  rw [ByteArray.toList_eq]
  unfold eqS at h
  exact ⟨by rw [← h, Bool.eq_iff_iff, beq_iff_eq, beq_iff_eq]; exact eq_comm, h⟩

set_option maxHeartbeats 400000 in
theorem index_any {w : World} {a : Option Addr} {cap : Nat} {l : List Str} (h : StrsAt w a l) (s : ByteArray) :
    Calls Try.prog 60 #[.slice a l.length cap, .string s] w fun e w' => e = .returned (.int .i64 (idx (eqS s.data.toList) l)) ∧ w = w' := by
  have hf := h.few
  unfold maxLen at hf
  go_enter Try.func60, Try.ntmps60
  go_wp2_with fail
  go_loop [5, 8] (fun _ i => ∃ k : Nat, k ≤ l.length ∧ i = .int .i64 k ∧ NoneTo (eqS s.data.toList) l k) (fun _ i => l.length - (intOf i).toNat)
  case atStart => exact ⟨0, Nat.zero_le _, rfl, NoneTo.zero _ _⟩
  case round =>
    obtain ⟨k, hk, rfl, hn⟩ := hrel
    by_cases hlt : k < l.length
    · obtain ⟨b, off, rfl, hb, hc⟩ := h.get hlt
      unfold sV at hc
      have hb1 : (0 : Int) ≤ k := by omega
      have hb2 : (k : Int) < l.length := by omega
      cases hp : eqS s.data.toList l[k]
      · obtain ⟨e1, e2⟩ := str_eq _ _ _ hp
        have HP := hid hp
        clear hp
        go_wp2_with fail
        go_round
        case rel => exact ⟨k + 1, by omega, by go_num, hn.next hlt HP.out⟩
        case measure => simp [intOf]; omega
      · obtain ⟨e1, e2⟩ := str_eq _ _ _ hp
        have HP := hid hp
        clear hp
        go_wp2_with fail
        go_ret
        exact ⟨ret_int (by rw [idx_yes hn hlt HP.out]), rfl⟩
    · have hx := hid (idx_no (hn.all (by omega)))
      go_wp2_with fail
      go_ret
      exact ⟨ret_int hx.out.symm, rfl⟩
set_option maxHeartbeats 400000 in
theorem contains_any {w : World} {a : Option Addr} {cap : Nat} {l : List Str} (h : StrsAt w a l) (s : ByteArray) :
    Calls Try.prog 43 #[.slice a l.length cap, .string s] w fun e w' => e = .returned (.bool (hasS l s.data.toList)) ∧ w = w' := by
  have hg := hid (idx_ge (p := eqS s.data.toList) (l := l))
  go_enter Try.func43, Try.ntmps43
  go_wp2_with (go_at_call 60; refine (index_any h s).mono ?_; rintro e w' ⟨rfl, rfl⟩)
  go_ret
  exact ⟨ret_bool hg.out, rfl⟩
set_option maxHeartbeats 400000 in
theorem rcontains_any {w : World} {a : Option Addr} {cap : Nat} {l : List Str} (h : StrsAt w a l) (s : ByteArray) :
    Calls Try.prog 45 #[.slice a l.length cap, .string s] w fun e w' => e = .returned (.bool (hasS l s.data.toList)) ∧ w = w' := by
  have hf := h.few
  unfold maxLen at hf
  go_enter Try.func45, Try.ntmps45
  go_wp2_with fail
  go_loop [5] (fun i => ∃ k : Nat, k ≤ l.length ∧ i = .int .i64 k ∧ NoneTo (eqS s.data.toList) l k) (fun i => l.length - (intOf i).toNat)
  case atStart => exact ⟨0, Nat.zero_le _, rfl, NoneTo.zero _ _⟩
  case round =>
    obtain ⟨k, hk, rfl, hn⟩ := hrel
    by_cases hlt : k < l.length
    · obtain ⟨b, off, rfl, hb, hc⟩ := h.get hlt
      unfold sV at hc
      have hb1 : (0 : Int) ≤ k := by omega
      have hb2 : (k : Int) < l.length := by omega
      cases hp : eqS s.data.toList l[k]
      · obtain ⟨e1, e2⟩ := str_eq _ _ _ hp
        have HP := hid hp
        clear hp
        go_wp2_with fail
        go_round
        case rel => exact ⟨k + 1, by omega, by go_num, hn.next hlt HP.out⟩
        case measure => simp [intOf]; omega
      · obtain ⟨e1, e2⟩ := str_eq _ _ _ hp
        have HP := hid hp
        clear hp
        go_wp2_with fail
        go_ret
        exact ⟨ret_bool (any_yes hlt HP.out).symm, rfl⟩
    · have hx := hid (any_no hn (by omega))
      go_wp2_with fail
      go_ret
      exact ⟨ret_bool hx.out.symm, rfl⟩

set_option maxHeartbeats 400000 in
theorem clone_any {w : World} {a : Option Addr} {cap : Nat} {l : List Str} (h : StrsAt w a l) (hlen : l.length ≤ 100000) :
    Calls Try.prog 56 #[.slice a l.length cap] w fun e w' => ∃ a' cap', e = .returned (.slice a' l.length cap') ∧ OwnL 9 1 encS w w' a' cap' l := by
  have hq : ∀ (w : World) (a : Option Addr) (n c : Nat), (binOp .eql 67 (.slice a n c) (.slice none 0 0)).run Try.prog w = .ok (.bool a.isNone) w := fun w a n c => Lib.run_eql_slice_nil w _ _ a n c 0 0 Try.underlying67
  cases a with
  | none =>
    have hl0 : l = [] := by
      rcases h.cells with h0 | ⟨b, off, e, _⟩
      · exact h0
      · cases e
    subst hl0
    go_enter Try.func56, Try.ntmps56
    go_wp2_with fail
    go_ret
    exact ⟨none, 0, rfl, OwnL.start w⟩
  | some ad =>
    have hd := h.keptN ((Kept.refl [] w).alloc (.cells #[] 9 (0, 0)))
    obtain ⟨L, HL⟩ : ∃ L, Hid (L = [] ++ l) := ⟨_, hid rfl⟩
    go_enter Try.func56, Try.ntmps56
    go_wp2_with (at_builtin; refine wp_appL encSOk Try.underlying67 HL.out (OwnL.made w) hd (by simp; omega) rfl _ _ rfl rfl rfl rfl rfl ?_; intro a' cap' w' ho hk hfp)
    go_ret
    have e := HL.out
    rw [List.nil_append] at e
    subst e
    exact ⟨a', cap', rfl, ho⟩

/-! ### moved -/
set_option maxHeartbeats 400000 in
theorem moved1_any (pb : Nat) (s : ByteArray) (x : Str) (w : World) (hw : w.cell? ⟨pb, 0, none⟩ = some (.string s)) :
    Calls Try.prog 57 #[sV x, .pointer (some ⟨pb, 0, none⟩)] w fun e w' => e = .returned (.bool (eqS s.data.toList x)) ∧ w = w' := by
  obtain ⟨e1, e2⟩ := str_eq s x _ rfl
  generalize eqS s.data.toList x = b at *
  unfold sV
  go_enter Try.func57, Try.ntmps57
  go_wp2
  go_ret
  exact ⟨rfl, rfl⟩
set_option maxHeartbeats 400000 in
theorem indexFunc_any (pb : Nat) (s : ByteArray) {w : World} {a : Option Addr} {cap : Nat} {l : List Str} (h : StrsAt w a l) (hw : w.cell? ⟨pb, 0, none⟩ = some (.string s)) :
    Calls Try.prog 65 #[.slice a l.length cap, .func (.func 57) #[] #[.pointer (some ⟨pb, 0, none⟩)]] w fun e w' => e = .returned (.int .i64 (idx (eqS s.data.toList) l)) ∧ w = w' := by
  have hf := h.few
  unfold maxLen at hf
  go_enter Try.func65, Try.ntmps65
  go_wp2_with fail
  go_loop [5, 8] (fun _ i => ∃ k : Nat, k ≤ l.length ∧ i = .int .i64 k ∧ NoneTo (eqS s.data.toList) l k) (fun _ i => l.length - (intOf i).toNat)
  case atStart => exact ⟨0, Nat.zero_le _, rfl, NoneTo.zero _ _⟩
  case round =>
    obtain ⟨k, hk, rfl, hn⟩ := hrel
    by_cases hlt : k < l.length
    · obtain ⟨b, off, rfl, hb, hc⟩ := h.get hlt
      have hb1 : (0 : Int) ≤ k := by omega
      have hb2 : (k : Int) < l.length := by omega
      have HC := hid (moved1_any pb s l[k] w hw)
      cases hp : eqS s.data.toList l[k]
      · have HP := hid hp
        rw [hp] at HC
        clear hp
        go_wp2_with (go_at_call 57; refine HC.out.mono ?_; rintro e w1 ⟨rfl, rfl⟩)
        go_round
        case rel => exact ⟨k + 1, by omega, by go_num, hn.next hlt HP.out⟩
        case measure => simp [intOf]; omega
      · have HP := hid hp
        rw [hp] at HC
        clear hp
        go_wp2_with (go_at_call 57; refine HC.out.mono ?_; rintro e w1 ⟨rfl, rfl⟩)
        go_ret
        exact ⟨ret_int (by rw [idx_yes hn hlt HP.out]), rfl⟩
    · have hx := hid (idx_no (hn.all (by omega)))
      go_wp2_with fail
      go_ret
      exact ⟨ret_int hx.out.symm, rfl⟩

theorem row_getS {w : World} {g n cap : Nat} {l : List Str} (h : w.ownsRow 0 9 1 (.slice (some ⟨g, 0, none⟩) n cap) n (rowV encS l)) {j : Nat} (hj : j < l.length) : w.cell? ⟨g, j, none⟩ = some (sV l[j]) := by
  have := rowV_get encSOk l j 0 hj (by omega)
  rw [Nat.mul_one, Nat.add_zero] at this
  exact row_cell h this
theorem rowV_map (l : List Str) : rowV encS l = l.map sV := by
  induction l with
  | nil => rfl
  | cons a r ih => show sV a :: rowV encS r = _; rw [ih]; rfl
theorem rowV_setS (l : List Str) (i : Nat) (x : Str) : rowV encS (l.set i x) = (rowV encS l).set i (sV x) := by
  rw [rowV_map, rowV_map, List.map_set]

set_option maxHeartbeats 2000000 in
set_option maxRecDepth 100000 in
theorem delete_any (pb : Nat) (s : ByteArray) {w0 w : World} {a : Option Addr} {cap : Nat} {l : List Str} (h : OwnL 9 1 encS w0 w a cap l) (hlen : l.length ≤ 100000) (hw : w.cell? ⟨pb, 0, none⟩ = some (.string s)) (hpb : pb < w0.heap.size) :
    Calls Try.prog 55 #[.slice a l.length cap, .func (.func 57) #[] #[.pointer (some ⟨pb, 0, none⟩)]] w fun e w' => ∃ a' cap', e = .returned (.slice a' (delP (eqS s.data.toList) l).length cap') ∧ OwnL 9 1 encS w0 w' a' cap' (delP (eqS s.data.toList) l) := by
  have HX := hid (indexFunc_any (cap := cap) pb s (h.seq encSOk) hw)
  rcases idx_split (p := eqS s.data.toList) (l := l) with ⟨e, hn⟩ | ⟨i0, hi0, e, hp, hn⟩
  · have E := hid (delP_none hn)
    rw [e] at HX
    clear e
    go_enter Try.func55, Try.ntmps55
    go_wp2_with (go_at_call 65; refine HX.out.mono ?_; rintro e w1 ⟨rfl, rfl⟩)
    go_ret
    rw [E.out]
    exact ⟨a, cap, rfl, h⟩
  · rw [e] at HX
    clear e
    have HM := hid (Mix.start hi0 hp hn)
    have hne : ((i0 : Int) == -1) = false := by rw [beq_eq_false_iff_ne]; omega
    obtain ⟨g, cur, rfl, hg, hncap, hcm, _⟩ := row_some h.row (by omega)
    have hgw := lt_of_heap hg
    have hgn : w0.heap.size ≤ g := h.new g (by simp [fp])
    have hr0 := h.row
    have hk0 := h.kept
    unfold maxLen at hcm
    have hC : ∀ x wq, wq.cell? ⟨pb, 0, none⟩ = some (.string s) → Calls Try.prog 57 #[sV x, .pointer (some ⟨pb, 0, none⟩)] wq fun e w' => e = .returned (.bool (eqS s.data.toList x)) ∧ wq = w' := fun x wq hq => moved1_any pb s x wq hq
    have HCC := hid hC
    clear hC h hp hn
    generalize eqS s.data.toList = pr at *
    go_enter Try.func55, Try.ntmps55
    go_wp2_with (go_at_call 65; refine HX.out.mono ?_; rintro e w1 ⟨rfl, rfl⟩)
    go_loopw [5, 6] (fun iv jv wr => ∃ (i j : Nat) (mix : List Str), iv = .int .i64 i ∧ jv = .int .i64 j ∧ Hid (Mix pr l mix i j) ∧ wr.ownsRow 0 9 1 (.slice (some ⟨g, 0, none⟩) l.length cap) l.length (rowV encS mix) ∧ Kept [g] w wr) (fun _ jv _ => l.length - (intOf jv).toNat)
    case atStart => exact ⟨i0, i0 + 1, l, rfl, by first | rfl | go_num, HM, hr0, Kept.refl _ _⟩
    case round =>
      obtain ⟨i, j, mix, rfl, rfl, HMx, hrow, hkw⟩ := hrel
      have hij := HMx.out.lt
      have hjl := HMx.out.le
      by_cases hlt : j < l.length
      · obtain ⟨hjm, hmj⟩ := HMx.out.get hlt
        have hc0 := row_getS hrow hjm
        rw [hmj] at hc0
        have hpw : wr.cell? ⟨pb, 0, none⟩ = some (.string s) := by rw [hkw.cell (World.block_lt_of_cell? w _ hw) (by simp; omega)]; exact hw
        have hb1 : (0 : Int) ≤ j := by omega
        have hb2 : (j : Int) < l.length := by omega
        have hi1 : (0 : Int) ≤ i := by omega
        have hi2 : (i : Int) < l.length := by omega
        have HC := hid (HCC.out l[j] wr hpw)
        unfold sV at hc0 HC
        cases hp2 : pr l[j]
        · have HM2 := hid (HMx.out.put hlt hp2)
          rw [hp2] at HC
          clear hp2
          have him : i < mix.length := by omega
          have z0 := row_getS hrow him
          have fz0 := hrow.frozenAt i
          unfold sV at z0
          clear hmj
          go_wp2_with (go_at_call 57; refine HC.out.mono ?_; rintro e w2 ⟨rfl, rfl⟩)
          go_roundw
          case rel =>
            have hr2 := (hrow.stored i (sV l[j])).1
            rw [← rowV_setS mix i] at hr2
            exact ⟨i + 1, j + 1, _, by go_num, by go_num, HM2, hr2, hkw.setCell (.inl (by simp)) _⟩
          case measure => simp [intOf]; omega
        · have HM2 := hid (HMx.out.skip hlt hp2)
          rw [hp2] at HC
          clear hp2
          go_wp2_with (go_at_call 57; refine HC.out.mono ?_; rintro e w2 ⟨rfl, rfl⟩)
          go_roundw
          case rel => exact ⟨i, j + 1, mix, rfl, by go_num, HM2, hrow, hkw⟩
          case measure => simp [intOf]; omega
      · obtain rfl : j = l.length := by omega
        obtain ⟨g', cur, e, hg', _, _, hcs, htk⟩ := row_some hrow (by omega)
        injection e with e; injection e with e
        subst e
        have hfr := HMx.out.front
        rw [List.take_length] at hfr
        have hlen2 : (delP pr l).length = i := by rw [← hfr]; simp; have := HMx.out.len; omega
        have hcl := fun ty => run_clear_own (P := Try.prog) wr 67 9 ty (.string ⟨#[]⟩) Try.underlying67 (fun _ => by kernel_rfl) (by decide) (by decide) g i (l.length - i) (cap - i) (by omega) cur hg' (by rw [hcs]; simp [Value.cells]; omega)
        have hi1 : (0 : Int) ≤ i := by omega
        have hi2 : (i : Int) ≤ l.length := by omega
        have hi3 : (l.length : Int) ≤ cap := by omega
        have hi4 : (i : Int) ≤ cap := by omega
        have HF := hid hfr
        have HL2 := hid hlen2
        have HT := hid htk
        have HCS := hid hcs
        clear hfr hlen2 htk hcs
        go_wp2_with fail
        go_ret
        rw [HL2.out]
        refine ⟨some ⟨g, 0, none⟩, cap, rfl, ?_⟩
        have := row_cleared encSOk (i := i) (n := l.length) (rest := (Builtin.zeroCells (Value.string ⟨#[]⟩).cells (l.length - i)).toList ++ cur.toList.drop (i + (l.length - i) * 1)) rfl hg' HCS.out HT.out (by omega) hncap (by unfold maxLen; omega) HF.out HL2.out (by simp [Builtin.zeroCells, HCS.out, Value.cells]; omega) hk0 hkw hgn
        rw [Nat.mul_one] at this
        simpa [Value.cells] using this
end Go.Proofs.Ytbcbffmbpoffpaa
