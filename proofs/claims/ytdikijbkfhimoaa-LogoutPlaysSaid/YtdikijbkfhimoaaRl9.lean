/- Status, Given, Bound of the reference, walked. -/
import Derived.Test.YtdikijbkfhimoaaRl8
import Derived.Test.YtdikijbkfhimoaaAlive
namespace Go.Proofs.Ytdikijbkfhimoaa
open Go.RowKit Go.Maps

def isSt (v : Int) (r : RN) : Bool := decide (r.state = v)
def cntR (v : Int) (l : List RN) : Nat := (l.filter (isSt v)).length
theorem cntR_snoc (v : Int) (l : List RN) {k : Nat} (hk : k < l.length) : cntR v (l.take (k + 1)) = cntR v (l.take k) + if isSt v l[k] = true then 1 else 0 := by
  unfold cntR
  rw [List.take_succ_eq_append_getElem hk, List.filter_append, List.length_append]
  congr 1
  cases h : isSt v l[k] <;> simp [h]
theorem cntR_le (v : Int) (l : List RN) : cntR v l ≤ l.length := List.length_filter_le _ _
theorem cnt_rel {x : Ses} {l : List RN} (h : RelN x l) (v : Int) : cntS v x.2 = cntR v l := by
  rw [← cntS_perm h.perm]
  unfold cntS cntR
  rw [List.filter_map, List.length_map]
  rfl
theorem two_le (l : List RN) : cntR 2 l + cntR 3 l ≤ l.length := by
  unfold cntR
  induction l with
  | nil => simp
  | cons r t ih =>
    rw [List.filter_cons, List.filter_cons]
    have : ¬ (isSt 2 r = true ∧ isSt 3 r = true) := by unfold isSt; simp; omega
    by_cases h2 : isSt 2 r = true
    · rw [if_pos h2, if_neg (fun h3 => this ⟨h2, h3⟩)]; simp; omega
    · rw [if_neg h2]
      by_cases h3 : isSt 3 r = true
      · rw [if_pos h3]; simp; omega
      · rw [if_neg h3]; simp; omega
def givR (l : List RN) : List Str := (l.filter (isSt 3)).map RN.c
theorem givR_snoc (l : List RN) {k : Nat} (hk : k < l.length) : givR (l.take (k + 1)) = givR (l.take k) ++ if isSt 3 l[k] = true then [l[k].c] else [] := by
  unfold givR
  rw [List.take_succ_eq_append_getElem hk, List.filter_append, List.map_append]
  congr 1
  cases h : isSt 3 l[k] <;> simp [h]
theorem given_rel {x : Ses} {l : List RN} (h : RelN x l) (hu : AUniq x.2) : delP (notG x.2) (keysS x.2) = givR l := by
  have hk : keysS x.2 = l.map RN.c := by
    refine keysS_eq ?_ ?_
    · have := h.perm.map (·.1)
      rw [List.map_map] at this
      exact this
    · rw [List.pairwise_map]; exact h.srt.imp (fun hab => List.le_of_lt hab)
  rw [hk]
  unfold delP givR
  rw [List.filter_map]
  congr 1
  apply List.filter_congr
  intro r hr
  have hl := alook_of_mem hu (h.perm.mem_iff.1 (List.mem_map.2 ⟨r, hr, rfl⟩))
  show (!notG x.2 r.c) = isSt 3 r
  unfold notG
  rw [hl]
  unfold isSt
  simp
theorem stat_rel {U : Log} {s : Str} {x : Ses} {l : List RN} (hx : alook U s = some x) (h : RelN x l) : statS U s = (cntR 2 l, cntR 3 l, l.length - cntR 2 l - cntR 3 l) := by
  unfold statS
  rw [hx]
  dsimp only
  rw [cnt_rel h, cnt_rel h, h.len]
section
variable {w : World} {qb most delay : Nat} {a : Option Addr} {cap : Nat} {Y : List RQ} {U : Log}
set_option maxHeartbeats 4000000 in
theorem rstatus_any (h : RAt w qb most delay a cap Y) (hr : Rel U Y) (s : ByteArray) :
    Calls Try.prog 23 #[.pointer (some ⟨qb, 0, none⟩), .string s] w fun e w' => e = .returned (.tuple #[.int .i64 ((statS U s.data.toList).1 : Nat), .int .i64 ((statS U s.data.toList).2.1 : Nat), .int .i64 ((statS U s.data.toList).2.2 : Nat)]) ∧ w = w' := by
  have HA := hid (at_any h s)
  rcases hr.look s.data.toList with ⟨e, hn⟩ | ⟨i, hi, e, hs, x, hx, hrx⟩
  · rw [e] at HA
    have E := hid (show statS U s.data.toList = (0, 0, 0) by unfold statS; rw [hn])
    rw [E.out]
    clear h hr e hn
    go_enter Try.func23, Try.ntmps23
    go_wp2_with (go_at_call 37; refine HA.out.mono ?_; rintro e w' ⟨rfl, rfl⟩)
    go_loop [7, 8, 9, 11] (fun av bv cv kv => av = .int .i64 0 ∧ bv = .int .i64 0 ∧ cv = .int .i64 0 ∧ kv = .int .i64 0) (fun _ _ _ _ => 0)
    case atStart => exact ⟨rfl, rfl, rfl, rfl⟩
    case round =>
      obtain ⟨rfl, rfl, rfl, rfl⟩ := hrel
      go_wp2_with fail
      go_ret3
      exact ⟨rfl, rfl⟩
  · rw [e] at HA
    have E := hid (stat_rel hx hrx)
    rw [E.out]
    have c2 := h.c2
    have hfew := h.len
    have hl := h.lens _ (List.getElem_mem hi)
    obtain ⟨g, rfl, hg, d0, d1⟩ := h.get hi
    have HNT := hid (fun k (hk : k < Y[i].l.length) => h.note hi hk)
    have j1 : (0 : Int) ≤ i := by omega
    have j2 : (i : Int) < Y.length := by omega
    clear h hr e hs hx hrx d0
    generalize Y[i] = y at *
    have HT := hid (two_le y.l)
    go_enter Try.func23, Try.ntmps23
    go_wp2_with (go_at_call 37; refine HA.out.mono ?_; rintro e w' ⟨rfl, rfl⟩)
    go_loop [7, 8, 9, 11] (fun av bv cv kv => ∃ (k n m o : Nat), k ≤ y.l.length ∧ kv = .int .i64 (k : Int) ∧ av = .int .i64 (n : Int) ∧ bv = .int .i64 (m : Int) ∧ cv = .int .i64 (o : Int) ∧ n ≤ k ∧ m ≤ k ∧ o ≤ k ∧ Hid (n = cntR 2 (y.l.take k) ∧ m = cntR 3 (y.l.take k) ∧ o + cntR 2 (y.l.take k) + cntR 3 (y.l.take k) = k)) (fun _ _ _ kv => y.l.length - (intOf kv).toNat)
    case atStart => exact ⟨0, 0, 0, 0, Nat.zero_le _, rfl, rfl, rfl, rfl, Nat.zero_le _, Nat.zero_le _, Nat.zero_le _, hid (by simp [cntR])⟩
    case round =>
      obtain ⟨k, n, m, o, hk, rfl, rfl, rfl, rfl, hnk, hmk, hok, HC⟩ := hrel
      have k1 : (0 : Int) ≤ k := by omega
      by_cases hkl : k < y.l.length
      · have k2 : (k : Int) < y.l.length := by omega
        obtain ⟨b, eb, hb, _, _, _, n3, _⟩ := HNT.out k hkl
        have d1' := d1
        rw [eb] at d1'
        have HS2 := hid (cntR_snoc 2 y.l hkl)
        have HS3 := hid (cntR_snoc 3 y.l hkl)
        have EB := hid eb
        clear eb d1
        generalize y.l[k] = r at *
        by_cases h2 : r.state = 2
        · have h3 : isSt 2 r = true := decide_eq_true h2
          have h4 : isSt 3 r = false := by unfold isSt; rw [h2]; rfl
          rw [h3] at HS2
          rw [h4] at HS3
          rw [h2] at n3
          clear h2 h3 h4
          go_wp2_with fail
          go_round
          case rel => exact ⟨k + 1, n + 1, m, o, by omega, by go_num, by go_num, rfl, rfl, by omega, by omega, by omega, hid (by rw [HS2.out, HS3.out]; obtain ⟨e1, e2, e3⟩ := HC.out; simp; omega)⟩
          case measure => simp [intOf]; omega
        · by_cases h5 : r.state = 3
          · have h3 : isSt 2 r = false := decide_eq_false h2
            have h4 : isSt 3 r = true := decide_eq_true h5
            rw [h3] at HS2
            rw [h4] at HS3
            rw [h5] at n3
            clear h2 h3 h4 h5
            go_wp2_with fail
            go_round
            case rel => exact ⟨k + 1, n, m + 1, o, by omega, by go_num, rfl, by go_num, rfl, by omega, by omega, by omega, hid (by rw [HS2.out, HS3.out]; obtain ⟨e1, e2, e3⟩ := HC.out; simp; omega)⟩
            case measure => simp [intOf]; omega
          · have h3 : isSt 2 r = false := decide_eq_false h2
            have h4 : isSt 3 r = false := decide_eq_false h5
            rw [h3] at HS2
            rw [h4] at HS3
            generalize r.state = rs at *
            have i2 : decide (rs = 2) = false := decide_eq_false h2
            have i3 : decide (rs = 3) = false := decide_eq_false h5
            have i4 : (rs == 2) = false := beq_eq_false_iff_ne.2 h2
            have i5 : (rs == 3) = false := beq_eq_false_iff_ne.2 h5
            clear h2 h3 h4 h5
            go_wp2_with fail
            go_round
            case rel => exact ⟨k + 1, n, m, o + 1, by omega, by go_num, rfl, rfl, by go_num, by omega, by omega, by omega, hid (by rw [HS2.out, HS3.out]; obtain ⟨e1, e2, e3⟩ := HC.out; simp; omega)⟩
            case measure => simp [intOf]; omega
      · obtain rfl : k = y.l.length := by omega
        rw [List.take_length] at HC
        have k3 : decide ((y.l.length : Int) < y.l.length) = false := decide_eq_false (by omega)
        have HE := hid (show n = cntR 2 y.l ∧ m = cntR 3 y.l ∧ o = y.l.length - cntR 2 y.l - cntR 3 y.l by obtain ⟨e1, e2, e3⟩ := HC.out; exact ⟨e1, e2, by omega⟩)
        go_wp2_with fail
        go_ret3
        obtain ⟨rfl, rfl, rfl⟩ := HE.out
        exact ⟨rfl, rfl⟩
set_option maxHeartbeats 1000000 in
theorem rbound_any (h : RAt w qb most delay a cap Y) :
    Calls Try.prog 28 #[.pointer (some ⟨qb, 0, none⟩)] w fun e w' => e = .returned (.int .i64 (afterN delay (most - 1) : Nat)) ∧ DrewN w w' := by
  have c0 := h.c0
  have c1 := h.c1
  obtain ⟨m1, m2⟩ := h.rm
  obtain ⟨r1, r2⟩ := h.rd
  clear h
  have i0 : decide ((most : Int) = 0) = false := decide_eq_false (by omega)
  have i1 : ((most : Int) == 0) = false := by rw [beq_eq_false_iff_ne]; omega
  have f8 : most - 1 ≤ 8 := by omega
  have HPW := hid (fun (W : World) => power_any (most - 1) f8 W)
  have bd := after_bd r2 f8
  have HPV := hid (show ((delay : Int) * (((2 ^ (most - 1) : Nat) : Int) - 1)) = ((afterN delay (most - 1) : Nat) : Int) by
    unfold afterN
    have : 1 ≤ 2 ^ (most - 1) := Nat.one_le_two_pow
    rw [Int.natCast_mul, Int.natCast_sub this]; rfl)
  have p1 : 1 ≤ 2 ^ (most - 1) := Nat.one_le_two_pow
  have p2 : 2 ^ (most - 1) ≤ 256 := by
    have : 2 ^ (most - 1) ≤ 2 ^ 8 := Nat.pow_le_pow_right (by omega) f8
    omega
  have HMC := hid (show (((most - 1 : Nat)) : Int) = (most : Int) - 1 by omega)
  rw [HMC.out] at HPW
  generalize 2 ^ (most - 1) = p at *
  generalize afterN delay (most - 1) = v at *
  have p3 : (1 : Int) ≤ p := by omega
  have p4 : (p : Int) ≤ 256 := by omega
  have s0 : IntKind.i64.wrap ((most : Int) - 1) = (most : Int) - 1 := IntWalk.i64_in _ (by omega)
  have s1 : IntKind.i64.wrap ((p : Int) - 1) = (p : Int) - 1 := IntWalk.i64_in _ (by omega)
  have s2 : IntKind.i64.wrap ((delay : Int) * ((p : Int) - 1)) = (v : Int) := by rw [HPV.out]; exact IntWalk.i64_in _ (by omega)
  go_enter Try.func28, Try.ntmps28
  go_wp2_with fail
  go_quiet ((go_at_call 45; exact Calls.quiet_of_same ((HPW.out _).mono fun _ _ h => ⟨h.1, h.2.symm⟩)))
  go_wp2_with fail
  go_ret
  exact ⟨rfl, _, rfl⟩
end
end Go.Proofs.Ytdikijbkfhimoaa
