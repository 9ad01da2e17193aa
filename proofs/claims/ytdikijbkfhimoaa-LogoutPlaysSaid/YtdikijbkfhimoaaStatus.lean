/- Ranging over notifications; Status of the program. -/
import Derived.Test.YtdikijbkfhimoaaDone
import Derived.Test.YtdikijbkfhimoaaPmap
import Derived.Laws.IdiomRangeMap
namespace Go.Proofs.Ytdikijbkfhimoaa
open Go.RowKit Go.Maps

theorem nent_filter (T : Notes) (k : Str) : (T.map nent).filter (fun p => !(p.1 == k)) = (adel T k).map nent := by
  unfold adel
  rw [List.filter_map]
  rfl
/-- A range over the notifications N in block mb, its state in block r: those of T are still to come. -/
structure NRange (w : World) (mb r : Nat) (N T : Notes) (cnt : Nat) : Prop where
  run : RRange Try.prog 9 w mb r (N.map nent) (T.map nent) cnt
  sub : ∀ p ∈ T, p ∈ N
theorem nuniq_of {N : Notes} (h : RUniq (N.map nent)) : AUniq N := by
  unfold RUniq at h
  rw [List.pairwise_map] at h
  exact h
theorem NRange.uniq {w : World} {mb r cnt : Nat} {N T : Notes} (h : NRange w mb r N T cnt) : AUniq N := nuniq_of h.run.uniq
theorem NRange.tuniq {w : World} {mb r cnt : Nat} {N T : Notes} (h : NRange w mb r N T cnt) : AUniq T := by
  obtain ⟨n, D, left, _, hs, hT⟩ := h.run.run
  have := hs.uniq.filter (fun p => left (.string p.1))
  rw [← hT] at this
  exact nuniq_of this
theorem NRange.kept {S : List Nat} {w w' : World} {mb r cnt : Nat} {N T : Notes} (h : NRange w mb r N T cnt) (k : Kept S w w') (h1 : mb ∉ S) (h2 : r ∉ S) : NRange w' mb r N T cnt := ⟨h.run.kept k h1 h2, h.sub⟩
section
variable {w : World} {ops : Array Oper} {rest : List Oper} {o : Oper} {a : Act} {Q : Exit → Act → World → Prop}
theorem wp_nrange {mb : Nat} {N : Notes} (h : MapS w mb (N.map nent)) (hg : o.guard = none) (m : Operand) (hop : o.op = Op.range 67 m) (hm : a.eval m = .map (some mb))
    (hK : ∀ w', NRange w' mb w.heap.size N N N.length → Kept [] w w' → w'.heap.size = w.heap.size + 1 → wpList Try.prog ops Q rest (a.put o.dst (.pointer (some ⟨w.heap.size, 0, none⟩))) w') :
    wpList Try.prog ops Q (o :: rest) a w :=
  wp_range h hg m _ hop 73 lawS Try.underlying67 hm (fun w' hr k hsz => hK w' ⟨by rw [List.length_map] at hr; exact hr, fun _ hp => hp⟩ k hsz)
theorem wp_nnext {mb r cnt : Nat} {N T : Notes} (h : NRange w mb r N T cnt) (hg : o.guard = none) (it : Operand) (hop : o.op = Op.next it false) (hit : a.eval it = .pointer (some ⟨r, 0, none⟩))
    (hDone : T = [] → wpList Try.prog ops Q rest (a.put o.dst (.tuple #[.bool false])) w)
    (hMore : ∀ (k : Str) (n : Note) (w' : World) (cnt' : Nat), k.length ≤ maxLen → (k, n) ∈ T → NRange w' mb r N (adel T k) cnt' → cnt' < cnt → Kept [r] w w' → w'.heap.size = w.heap.size →
      (Instr.entry (.pointer (some ⟨r, 0, none⟩))).run Try.prog w' = .ok (.tuple #[.string ⟨k.toArray⟩, .agg #[.int .i64 n.1, .int .i64 (n.2 : Int)]]) w' → wpList Try.prog ops Q rest (a.put o.dst (.tuple #[.bool true, .string ⟨k.toArray⟩, .agg #[.int .i64 n.1, .int .i64 (n.2 : Int)]])) w') :
    wpList Try.prog ops Q (o :: rest) a w := by
  refine wp_next h.run hg it hop lawS Try.underlying9 hit (fun e => hDone (List.map_eq_nil_iff.1 e)) (fun x v w' cnt' hwx hm hr hlt hkp hsz hen => ?_)
  obtain ⟨⟨k, n⟩, hp, e⟩ := List.mem_map.1 hm
  have e1 : k = x.data.toList := congrArg Prod.fst e
  have e2 : noteV n = v := congrArg Prod.snd e
  have ex : x = ⟨k.toArray⟩ := by rw [e1]
  subst e2
  subst ex
  rw [nent_filter] at hr
  exact hMore k n w' cnt' (by simpa [ByteArray.size] using hwx) hp ⟨by simpa using hr, fun p hp => h.sub p (adel_mem.1 hp).1⟩ hlt hkp hsz hen
end
/-- How many notifications have a state. -/
def cntS (v : Int) (N : Notes) : Nat := (N.filter fun p => decide (p.2.1 = v)).length
theorem cntS_perm {v : Int} {N M : Notes} (h : N.Perm M) : cntS v N = cntS v M := (h.filter _).length_eq
theorem cntS_del {v : Int} {T : Notes} (hu : AUniq T) {k : Str} {n : Note} (hm : (k, n) ∈ T) : cntS v T = (if n.1 = v then 1 else 0) + cntS v (adel T k) := by
  rw [cntS_perm (perm_del hu hm)]
  unfold cntS
  rw [List.filter_cons]
  by_cases h : n.1 = v
  · simp [h]; omega
  · simp [h]
theorem cntS_le (v : Int) (N : Notes) : cntS v N ≤ N.length := List.length_filter_le _ _
/-- What Status answers: of all that are notified, given up. -/
def statS (U : Log) (s : Str) : Nat × Nat × Nat := match alook U s with
  | none => (0, 0, 0)
  | some x => (cntS 2 x.2, cntS 3 x.2, x.2.length - cntS 2 x.2 - cntS 3 x.2)
theorem cntS_two (N : Notes) : cntS 2 N + cntS 3 N ≤ N.length := by
  unfold cntS
  induction N with
  | nil => simp
  | cons a r ih =>
    rw [List.filter_cons, List.filter_cons]
    by_cases h2 : a.2.1 = 2
    · simp [h2]; omega
    · by_cases h3 : a.2.1 = 3
      · simp [h3]; omega
      · simp [h2, h3]; omega

set_option maxHeartbeats 4000000 in
set_option maxRecDepth 1000000 in
theorem status_any {w : World} {lb mb most delay : Nat} {X : SBs} (h : LogAt w lb mb most delay X) (s : ByteArray) (hs : s.size ≤ maxLen) :
    Calls Try.prog 22 #[.pointer (some ⟨lb, 0, none⟩), .string s] w fun e w' => e = .returned (.tuple #[.int .i64 ((statS (absL X) s.data.toList).1 : Nat), .int .i64 ((statS (absL X) s.data.toList).2.1 : Nat), .int .i64 ((statS (absL X) s.data.toList).2.2 : Nat)]) ∧ Kept [] w w' := by
  have c2 := h.c2
  have HH := hid h
  have hfd := field_end
  have hlk := h.look s hs
  cases hq : alook X s.data.toList with
  | none =>
    have E := hid (show statS (absL X) s.data.toList = (0, 0, 0) by unfold statS; rw [absL_look, hq]; rfl)
    rw [E.out]
    rw [hq] at hlk
    unfold sval at hlk
    have hrg := run_range_nilMap (P := Try.prog) w 67 9 73 Try.underlying67
    have hnx : ∀ ty, (Instr.next (.pointer (some ⟨w.heap.size, 0, none⟩)) false ty).run Try.prog (w.alloc (.mapIter none 0 #[] 0)) = _ := fun ty => run_next_nilMap w ty 0 0 #[]
    have hln : ∀ (w : World) (ty : TypeId), (Builtin.len_ #[67] ty #[.map none]).run Try.prog w = .ok (.int .i64 0) w := fun w ty => Maps.len_nil Try.underlying67 ty
    clear h hq
    go_enter Try.func22, Try.ntmps22
    go_wp2_with (go_at_call 34; refine (ready_any c2).mono ?_; rintro e w' ⟨rfl, rfl⟩)
    refine wp_loop_rounds 1 ?_
    rw [rounds_succ]
    go_wp2_with fail
    go_ret3
    exact ⟨rfl, (Kept.refl [] w).alloc _⟩
  | some x =>
    obtain ⟨mb2, at_, N⟩ := x
    have hmem := alook_some hq
    have hN := h.each _ hmem
    have hlen : N.length ≤ 256 := (h.fine hmem).len
    have E := hid (show statS (absL X) s.data.toList = (cntS 2 N, cntS 3 N, N.length - cntS 2 N - cntS 3 N) by unfold statS; rw [absL_look, hq]; rfl)
    rw [E.out]
    rw [hq] at hlk
    unfold sval sesV at hlk
    have ht := cntS_two N
    have HN := hid hN
    have hlt2 : mb2 < w.heap.size := hN.lt
    clear h hq hmem hN
    go_enter Try.func22, Try.ntmps22
    go_wp2_with (first
      | (go_at_call 34; refine (ready_any c2).mono ?_; rintro e w' ⟨rfl, rfl⟩)
      | (at_range; refine wp_nrange HN.out rfl _ rfl rfl ?_; intro w0 hrg0 hk0 hs0))
    go_frame
    go_loopw [7, 8] (fun dv uv wr => ∃ (d u : Nat) (T : Notes) (cnt : Nat), dv = .int .i64 (d : Int) ∧ uv = .int .i64 (u : Int) ∧ NRange wr mb2 w.heap.size N T cnt ∧ Hid (d + cntS 2 T = cntS 2 N) ∧ Hid (u + cntS 3 T = cntS 3 N) ∧ Kept [] w wr ∧ w.heap.size < wr.heap.size) (fun _ _ wr => wr.rangeLeft mb2 w.heap.size)
    case atStart => exact ⟨0, 0, N, _, rfl, rfl, hrg0, hid (Nat.zero_add _), hid (Nat.zero_add _), hk0, by omega⟩
    case round =>
      obtain ⟨d, u, T, cnt, rfl, rfl, hrg, hd, hu, hkw, hsz⟩ := hrel
      have HRG := hid hrg
      have HKW := hid hkw
      have hd1 : d ≤ 256 := by have := hd.out; omega
      have hu1 : u ≤ 256 := by have := hu.out; omega
      clear hrg hkw hrg0 hk0 hs0
      go_wp2_with (first
        | (at_next; refine wp_nnext HRG.out rfl _ rfl rfl ?_ ?_))
      · intro hT
        have HT := hid hT
        clear hT
        have hd2 := hd.out
        have hu2 := hu.out
        rw [HT.out] at hd2 hu2
        have hd3 : d = cntS 2 N := by simpa [cntS] using hd2
        have hu3 : u = cntS 3 N := by simpa [cntS] using hu2
        have hln := fun ty => (show MapS wr mb2 (N.map nent) from HRG.out.run.raw).len Try.underlying67 ty
        rw [List.length_map] at hln
        rw [← hd3, ← hu3] at ht
        have HD3 := hid hd3
        have HU3 := hid hu3
        have b1 : (0 : Int) ≤ d := by omega
        have b2 : (0 : Int) ≤ u := by omega
        have b3 : (d : Int) ≤ 256 := by omega
        have b4 : (u : Int) ≤ 256 := by omega
        have b5 : (N.length : Int) ≤ 256 := by omega
        have HR := hid (show ((N.length - d - u : Nat) : Int) = (N.length : Int) - d - u by omega)
        clear hd2 hu2 hd3 hu3
        go_wp2_with fail
        go_ret3
        rw [← HD3.out, ← HU3.out, HR.out]
        exact ⟨rfl, HKW.out⟩
      · intro k n1 n2 w1 cnt1 hkl hm hrg1 hlt1 hk1 hsz1 hen
        have HM2 := hid (cntS_del (v := 2) HRG.out.tuniq hm)
        have HM3 := hid (cntS_del (v := 3) HRG.out.tuniq hm)
        have HRG1 := hid hrg1
        have HKW1 := hid (HKW.out.trans hk1 (fun i hi => .inr (by simp at hi; omega)))
        have HM := hid (show cnt1 < wr.rangeLeft mb2 w.heap.size by rw [HRG.out.run.left_eq]; exact hlt1)
        have hszw : w.heap.size < w1.heap.size := by omega
        have hd2 := hd.out
        have hu2 := hu.out
        rw [HM2.out] at hd2
        rw [HM3.out] at hu2
        have b1 : (0 : Int) ≤ d := by omega
        have b2 : (0 : Int) ≤ u := by omega
        have b3 : (d : Int) ≤ 256 := by omega
        have b4 : (u : Int) ≤ 256 := by omega
        have HD2 := hid hd2
        have HU2 := hid hu2
        clear hrg1 hk1 hm hlt1 hsz1 HRG HM2 HM3 hd2 hu2 hd hu
        have HKA := hid (fun o => HRG1.out.kept ((Kept.refl [] w1).alloc o) (by simp) (by simp))
        have HKB := hid (fun o => HKW1.out.step ((Kept.refl [] w1).alloc o) (by simp))
        by_cases e2 : n1 = 2
        · subst e2
          go_wp2_with fail
          go_roundw
          case rel => exact ⟨d + 1, u, _, cnt1, by go_num, rfl, HKA.out _, hid (by have := HD2.out; simp at this; omega), hid (by have := HU2.out; simp at this; omega), HKB.out _, by simp; omega⟩
          case measure => rw [(HKA.out _).run.left_eq]; exact HM.out
        · by_cases e3 : n1 = 3
          · subst e3
            go_wp2_with fail
            go_roundw
            case rel => exact ⟨d, u + 1, _, cnt1, rfl, by go_num, HKA.out _, hid (by have := HD2.out; simp at this; omega), hid (by have := HU2.out; simp at this; omega), HKB.out _, by simp; omega⟩
            case measure => rw [(HKA.out _).run.left_eq]; exact HM.out
          · have i2 : decide (n1 = 2) = false := decide_eq_false e2
            have i3 : decide (n1 = 3) = false := decide_eq_false e3
            go_wp2_with fail
            go_roundw
            case rel => exact ⟨d, u, _, cnt1, rfl, rfl, HKA.out _, hid (by have := HD2.out; rw [if_neg e2] at this; omega), hid (by have := HU2.out; rw [if_neg e3] at this; omega), HKB.out _, by simp; omega⟩
            case measure => rw [(HKA.out _).run.left_eq]; exact HM.out
end Go.Proofs.Ytdikijbkfhimoaa
