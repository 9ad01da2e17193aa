/- The small cases of the law are true. -/
import Derived.Test.YtjjmcmchcmfgnaaDoorForm
import Derived.Test.YtjjmcmchcmfgnaaDoorParseA
import Derived.Test.YtjjmcmchcmfgnaaDoorUnion
namespace Go.Proofs.YtjjmcmchcmfgnaaDoor
open Go.RowKit

/-! ### what the small cases ask -/
theorem Parsed.uniq {s : List UInt8} {n k n' k' : Int} (h : Parsed s n k) (h' : Parsed s n' k') : n = n' ∧ k = k' := by
  cases h with
  | ok c r ok1 le1 =>
    cases h' with
    | ok c' r' ok' le' => obtain rfl := r.uniq r'; exact ⟨rfl, rfl⟩
    | range c' r' no => obtain rfl := r.uniq r'; exact absurd ⟨ok1, le1⟩ no
    | form no => exact absurd r (no c)
  | range c r no =>
    cases h' with
    | ok c' r' ok' le' => obtain rfl := r.uniq r'; exact absurd ⟨ok', le'⟩ no
    | range c' r' _ => exact ⟨rfl, rfl⟩
    | form no' => exact absurd r (no' c)
  | form no =>
    cases h' with
    | ok c' r' _ _ => exact absurd r' (no c')
    | range c' r' _ => exact absurd r' (no c')
    | form _ => exact ⟨rfl, rfl⟩
theorem parse_at (l : List UInt8) (n k : Int) (h : Parsed l n k) (w : World) :
    Calls Tryd.prog 25 #[.string ⟨l.toArray⟩] w fun e w' => e = .returned (.tuple #[.int .i64 n, .int .i64 k]) ∧ Kept [] w w' :=
  (parse_any ⟨l.toArray⟩ w).mono fun e w' ⟨n', k', hp, he, hk⟩ => by
    obtain ⟨rfl, rfl⟩ := h.uniq (by simpa using hp)
    exact ⟨he, hk⟩
theorem format_at (t : Int) (c : Cal) (l : List UInt8) (k : c.Ok) (h : (c.at : Int) = lim t) (hf : c.form = l) {w : World} (ht : Tab w) :
    Calls Tryd.prog 27 #[.int .i64 t] w fun e w' => e = .returned (.string ⟨l.toArray⟩) ∧ Kept [] w w' :=
  (format_any t ht).mono fun e w' ⟨c', k', h', he, hk⟩ => by
    have : c = c' := Cal.uniq k k' (by omega)
    subst this
    rw [hf] at he
    exact ⟨he, hk⟩
theorem least_small : Least [(5, 9), (1, 3), (3, 4), (7, 7)] [(1, 4), (5, 9)] := by
  refine ⟨⟨by simp, by simp⟩, fun t => ?_, by simp⟩
  simp only [Mem.cons]
  have := @Mem.nil t
  constructor
  · rintro (h | h | h)
    · have := h.1; have := h.2
      rcases (show t < 3 ∨ 3 ≤ t by omega) with h3 | h3
      · exact .inr (.inl ⟨h.1, h3⟩)
      · exact .inr (.inr (.inl ⟨h3, h.2⟩))
    · exact .inl h
    · exact absurd h this
  · rintro (h | h | h | h | h)
    · exact .inr (.inl h)
    · exact .inl ⟨h.1, by have := h.2; omega⟩
    · exact .inl ⟨by have := h.1; omega, h.2⟩
    · exact absurd (Int.lt_of_le_of_lt h.1 h.2) (by decide)
    · exact absurd h this
theorem parsed_leap : Parsed [50, 48, 48, 48, 45, 48, 50, 45, 50, 57, 84, 48, 48, 58, 48, 48, 58, 48, 48, 90] 951782400 0 := by
  have r := Reads.four 50 48 48 48 48 50 50 57 48 48 48 48 48 48 rfl rfl rfl rfl rfl rfl rfl rfl rfl rfl rfl rfl rfl rfl
  have h := Parsed.ok _ r (by constructor <;> decide) (by decide)
  exact h
theorem parsed_none : Parsed [50, 48, 48, 49, 45, 48, 50, 45, 50, 57, 84, 48, 48, 58, 48, 48, 58, 48, 48, 90] 0 27 := by
  have r := Reads.four 50 48 48 49 48 50 50 57 48 48 48 48 48 48 rfl rfl rfl rfl rfl rfl rfl rfl rfl rfl rfl rfl rfl rfl
  exact .range _ r (fun h => absurd h.1.d2 (by decide))
theorem cal_0 : Cal.Ok ⟨1970, 1, 1, 0, 0, 0⟩ := by constructor <;> decide
theorem cal_1 : Cal.Ok ⟨1970, 1, 1, 23, 59, 59⟩ := by constructor <;> decide
theorem heap_two (w : World) (A B : Obj) : ((w.alloc A).alloc B).heap[w.heap.size]? = some A ∧ ((w.alloc A).alloc B).heap[w.heap.size + 1]? = some B := by
  refine ⟨(Below.heap_alloc (w.alloc A) B _ (by simp)).trans (heap_alloc_new w A), ?_⟩
  have := heap_alloc_new (w.alloc A) B
  rwa [show (w.alloc A).heap.size = w.heap.size + 1 by simp] at this
set_option maxHeartbeats 1000000 in
theorem same_any {w : World} {a b : Option Addr} {c d : Nat} {l : List Win} (h1 : WinsAt w a l) (h2 : WinsAt w b l) :
    Calls Tryd.prog 22 #[.slice a l.length c, .slice b l.length d] w fun e w' => e = .returned (.bool true) ∧ Kept [] w w' := by
  have hf := h1.few
  unfold maxLen at hf
  go_enter Tryd.func22, Tryd.ntmps22
  go_wp2_with fail
  go_loopw [5] (fun i wr => ∃ k : Nat, k ≤ l.length ∧ i = .int .i64 (k : Int) ∧ ∃ n, wr = w.drewN n) (fun i _ => l.length - (intOf i).toNat)
  case atStart => exact ⟨0, Nat.zero_le _, rfl, 0, rfl⟩
  case round =>
    obtain ⟨k, hk, rfl, n, rfl⟩ := hrel
    by_cases hlt : k < l.length
    · obtain ⟨b1, o1, rfl, hb1, hc0, hc1⟩ := h1.get hlt
      obtain ⟨b2, o2, rfl, hb2, hd0, hd1⟩ := h2.get hlt
      have hx1 : (0 : Int) ≤ k := by omega
      have hx2 : (k : Int) < l.length := by omega
      go_wp2_with fail
      go_quiet (fail)
      go_wp2_with fail
      go_roundw
      case rel => exact ⟨k + 1, hlt, by go_num, _, rfl⟩
      case measure => simp [intOf]; omega
    · go_wp2_with fail
      go_ret
      exact ⟨rfl, (Kept.refl _ _).drewN _⟩
set_option maxHeartbeats 4000000 in
set_option maxRecDepth 100000 in
theorem alive_any {w : World} (ht : Tab w) :
    Calls Tryd.prog 15 #[] w fun e w' => e = .returned (.bool true) ∧ Kept [] w w' := by
  have T0 := hid ht
  clear ht
  have hcom := hid (fun W => common_any (1, 5) (3, 9) W)
  rw [show comW (1, 5) (3, 9) = ((3, 5), true) by decide] at hcom
  unfold winV at hcom
  have hun := hid (fun (W : World) (b : Nat) (hb : W.heap[b]? = some (.cells #[.int .i64 5, .int .i64 9, .int .i64 1, .int .i64 3, .int .i64 3, .int .i64 4, .int .i64 7, .int .i64 7] 27 (0, 0))) =>
    union_any (cap := 4) (list_box encWOk (l := [(5, 9), (1, 3), (3, 4), (7, 7)]) hb rfl (by simp [maxLen])) (by simp))
  have hp1 := hid (fun W => parse_at _ _ _ parsed_leap W)
  have hp2 := hid (fun W => parse_at _ _ _ parsed_none W)
  have hlu := hid (fun U (h : Least [(5, 9), (1, 3), (3, 4), (7, 7)] U) => h.uniq least_small)
  have a1 := hid (fun W => add_any 10 (-5) W)
  rw [show add 10 (-5) = 10 by decide] at a1
  have a2 := hid (fun W => add_any 1099511627776 1 W)
  rw [show add 1099511627776 1 = 1099511627776 by decide] at a2
  have s1 := hid (fun W => sub_any 3 10 W)
  rw [show sub 3 10 = -7 by decide] at s1
  have v1 := hid (fun W => valid_any 0 W)
  rw [show valid 0 = true by decide] at v1
  have v2 := hid (fun W => valid_any (-1) W)
  rw [show valid (-1) = false by decide] at v2
  have i1 := hid (fun W => in_any (100, 200) 100 W)
  rw [show inW (100, 200) 100 = true by decide] at i1
  have i2 := hid (fun W => in_any (100, 200) 200 W)
  rw [show inW (100, 200) 200 = false by decide] at i2
  have k1 := hid (fun W => check_any (100, 200) 95 5 W)
  rw [show chk (100, 200) 95 5 = 0 by decide] at k1
  have k2 := hid (fun W => check_any (100, 200) 94 5 W)
  rw [show chk (100, 200) 94 5 = 14 by decide] at k2
  have k3 := hid (fun W => check_any (100, 200) 204 5 W)
  rw [show chk (100, 200) 204 5 = 0 by decide] at k3
  have k4 := hid (fun W => check_any (100, 200) 205 5 W)
  rw [show chk (100, 200) 205 5 = 13 by decide] at k4
  unfold winV at i1 i2 k1 k2 k3 k4
  have f1 := hid (fun (W : World) (h : Kept [] w W) => format_at 0 ⟨1970, 1, 1, 0, 0, 0⟩ [49, 57, 55, 48, 45, 48, 49, 45, 48, 49, 84, 48, 48, 58, 48, 48, 58, 48, 48, 90] cal_0 (by decide) (by decide) (T0.out.kept h))
  have f2 := hid (fun (W : World) (h : Kept [] w W) => format_at 86399 ⟨1970, 1, 1, 23, 59, 59⟩ [49, 57, 55, 48, 45, 48, 49, 45, 48, 49, 84, 50, 51, 58, 53, 57, 58, 53, 57, 90] cal_1 (by decide) (by decide) (T0.out.kept h))
  have zAdd0 : True := trivial
  have zSub0 : True := trivial
  have zValid0 : True := trivial
  have zIn0 : True := trivial
  have zCheck0 : True := trivial
  have zFormat0 : True := trivial
  go_enter Tryd.func15, Tryd.ntmps15
  go_wp2_with (first
    | (go_at_call 20; refine (hcom.out _).mono ?_; rintro _ w3 ⟨rfl, h3⟩; have hbA := h3.at (heap_alloc_new w (.cells #[.int .i64 100, .int .i64 200] 27 (0, 0))) (by simp); have hw : Kept [] w w3 := ((Kept.refl [] w).alloc _).step h3 (by simp); clear h3))
  refine (hun.out _ _ (heap_two w3 _ _).2).mono ?_
  rintro _ w4 ⟨a4, c4, U, rfl, ho, hLe⟩
  obtain rfl := hlu.out U hLe
  have hk4 := ((((Kept.refl [] w3).alloc (.cells #[.int .i64 3, .int .i64 5] 27 (0, 0))).alloc (.cells #[.int .i64 5, .int .i64 9, .int .i64 1, .int .i64 3, .int .i64 3, .int .i64 4, .int .i64 7, .int .i64 7] 27 (0, 0)))).step ho.kept (by simp)
  have hbB := ho.kept.at (heap_two w3 (.cells #[.int .i64 3, .int .i64 5] 27 (0, 0)) _).1 (by simp)
  replace hbA := hk4.at hbA (by simp)
  replace hw := hw.step hk4 (by simp)
  have hs := ho.seq encWOk
  generalize hwb : w3.heap.size = B at *
  generalize hwa : w.heap.size = Ab at *
  clear ho hk4 hLe hlu hun hcom hwb hwa
  have hpz1 : True := trivial
  go_wp2_with (first
    | (go_at_call 25; have _t := hpz2; clear _t hpz2; refine (hp2.out _).mono ?_; rintro _ w3 ⟨rfl, h3⟩; replace hbA := h3.at hbA (by simp); replace hbB := h3.at hbB (by simp); replace hs := SeqAt.kept hs CEnc.lasts h3 (by simp); replace hw := hw.step h3 (by simp); clear h3; have b0 := cell_at hbB 0; have b1 := cell_at hbB 1; simp at b0 b1)
    | (go_at_call 25; have _t := hpz1; clear _t hpz1; refine (hp1.out _).mono ?_; rintro _ w3 ⟨rfl, h3⟩; replace hbA := h3.at hbA (by simp); replace hbB := h3.at hbB (by simp); replace hs := SeqAt.kept hs CEnc.lasts h3 (by simp); replace hw := hw.step h3 (by simp); clear h3; have hpz2 : True := trivial))
  refine (same_any (l := [(1, 4), (5, 9)]) (SeqAt.kept hs CEnc.lasts ((Kept.refl [] w3).alloc (.cells #[.int .i64 1, .int .i64 4, .int .i64 5, .int .i64 9] 27 (0, 0))) (by simp)) (list_box encWOk (l := [(1, 4), (5, 9)]) (heap_alloc_new w3 _) rfl (by simp [maxLen]))).mono ?_
  rintro _ w5 ⟨rfl, h5⟩
  replace h5 := ((Kept.refl [] w3).alloc (.cells #[.int .i64 1, .int .i64 4, .int .i64 5, .int .i64 9] 27 (0, 0))).step h5 (by simp)
  replace hbA := h5.at hbA (by simp)
  replace hw := hw.step h5 (by simp)
  have c0 := cell_at hbA 0
  have c1 := cell_at hbA 1
  simp at c0 c1
  clear h5 hbB b0 b1 hs hp1 hp2
  go_wp2_with (first
    | (go_at_call 11; have _t := zAdd1; clear _t zAdd1; refine (a2.out _).mono ?_; rintro _ w3 ⟨rfl, rfl⟩; have zAdd2 : True := trivial)
    | (go_at_call 11; have _t := zAdd0; clear _t zAdd0; refine (a1.out _).mono ?_; rintro _ w3 ⟨rfl, rfl⟩; have zAdd1 : True := trivial)
    | (go_at_call 13; have _t := zSub0; clear _t zSub0; refine (s1.out _).mono ?_; rintro _ w3 ⟨rfl, rfl⟩; have zSub1 : True := trivial)
    | (go_at_call 9; have _t := zValid1; clear _t zValid1; refine (v2.out _).mono ?_; rintro _ w3 ⟨rfl, rfl⟩; have zValid2 : True := trivial)
    | (go_at_call 9; have _t := zValid0; clear _t zValid0; refine (v1.out _).mono ?_; rintro _ w3 ⟨rfl, rfl⟩; have zValid1 : True := trivial)
    | (go_at_call 16; have _t := zIn1; clear _t zIn1; refine (i2.out _).mono ?_; rintro _ w3 ⟨rfl, h3⟩; replace hbA := h3.at hbA (by simp); have c0 := cell_at hbA 0; have c1 := cell_at hbA 1; simp at c0 c1; replace hw := hw.step h3 (by simp); clear h3; have zIn2 : True := trivial)
    | (go_at_call 16; have _t := zIn0; clear _t zIn0; refine (i1.out _).mono ?_; rintro _ w3 ⟨rfl, h3⟩; replace hbA := h3.at hbA (by simp); have c0 := cell_at hbA 0; have c1 := cell_at hbA 1; simp at c0 c1; replace hw := hw.step h3 (by simp); clear h3; have zIn1 : True := trivial)
    | (go_at_call 18; have _t := zCheck3; clear _t zCheck3; refine (k4.out _).mono ?_; rintro _ w3 ⟨rfl, h3⟩; replace hbA := h3.at hbA (by simp); have c0 := cell_at hbA 0; have c1 := cell_at hbA 1; simp at c0 c1; replace hw := hw.step h3 (by simp); clear h3; have zCheck4 : True := trivial)
    | (go_at_call 18; have _t := zCheck2; clear _t zCheck2; refine (k3.out _).mono ?_; rintro _ w3 ⟨rfl, h3⟩; replace hbA := h3.at hbA (by simp); have c0 := cell_at hbA 0; have c1 := cell_at hbA 1; simp at c0 c1; replace hw := hw.step h3 (by simp); clear h3; have zCheck3 : True := trivial)
    | (go_at_call 18; have _t := zCheck1; clear _t zCheck1; refine (k2.out _).mono ?_; rintro _ w3 ⟨rfl, h3⟩; replace hbA := h3.at hbA (by simp); have c0 := cell_at hbA 0; have c1 := cell_at hbA 1; simp at c0 c1; replace hw := hw.step h3 (by simp); clear h3; have zCheck2 : True := trivial)
    | (go_at_call 18; have _t := zCheck0; clear _t zCheck0; refine (k1.out _).mono ?_; rintro _ w3 ⟨rfl, h3⟩; replace hbA := h3.at hbA (by simp); have c0 := cell_at hbA 0; have c1 := cell_at hbA 1; simp at c0 c1; replace hw := hw.step h3 (by simp); clear h3; have zCheck1 : True := trivial)
    | (go_at_call 27; have _t := zFormat1; clear _t zFormat1; refine (f2.out _ hw).mono ?_; rintro _ w3 ⟨rfl, h3⟩; replace hbA := h3.at hbA (by simp); have c0 := cell_at hbA 0; have c1 := cell_at hbA 1; simp at c0 c1; replace hw := hw.step h3 (by simp); clear h3; have zFormat2 : True := trivial)
    | (go_at_call 27; have _t := zFormat0; clear _t zFormat0; refine (f1.out _ hw).mono ?_; rintro _ w3 ⟨rfl, h3⟩; replace hbA := h3.at hbA (by simp); have c0 := cell_at hbA 0; have c1 := cell_at hbA 1; simp at c0 c1; replace hw := hw.step h3 (by simp); clear h3; have zFormat1 : True := trivial))
  go_ret
  exact ⟨rfl, hw⟩
end Go.Proofs.YtjjmcmchcmfgnaaDoor
