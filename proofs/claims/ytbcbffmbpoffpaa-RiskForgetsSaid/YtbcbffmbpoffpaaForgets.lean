/- RiskForgets: the walk (under way). -/
import Derived.Test.YtbcbffmbpoffpaaForgetsQ
namespace Go.Proofs.Ytbcbffmbpoffpaa
open Go.RowKit Go.Maps Go.ChangeShapes Go.WideShapes Go.ChangeAt

def encU (x : UInt8) : List Value := [.int .u8 x.toNat]
abbrev BysAt (w : World) (a : Option Addr) (l : List UInt8) : Prop := ListAt 1 encU w a l
theorem BysAt.get {w : World} {a : Option Addr} {l : List UInt8} (h : BysAt w a l) {i : Nat} (hi : i < l.length) : ∃ b off, a = some ⟨b, off, none⟩ ∧ b < w.heap.size ∧ w.cell? ⟨b, off + i, none⟩ = some (.int .u8 l[i].toNat) := by
  obtain ⟨b, off, e, hb, hc⟩ := h.at hi
  refine ⟨b, off, e, hb, ?_⟩
  have := hc 0 _ rfl
  rwa [Nat.mul_one, Nat.add_zero] at this
/-- The device of a number. -/
def devN (n : Nat) : Str := [100, UInt8.ofNat (97 + n)]
theorem dev_conv (w : World) (g c n : Nat) (hn : n < 20) (hc : w.cell? ⟨g, 0, none⟩ = some (.int .u8 (97 + n))) :
    (convert 47 9 (.slice (some ⟨g, 0, none⟩) 1 c)).run Try.prog w = .ok (.string ⟨#[UInt8.ofNat (97 + n)]⟩) w := by
  refine run_convert_bytes_back w 47 9 5 ⟨g, 0, none⟩ c [UInt8.ofNat (97 + n)] Try.underlying47 Try.underlying5 Try.underlying9 (fun j hj => ?_)
  have : j = 0 := by simpa using hj
  subst this
  rw [show (⟨g, 0, none⟩ : Addr).add 0 = ⟨g, 0, none⟩ from rfl, hc]
  simp
  omega
theorem dev_word (n : Nat) (h : n < 20) : wordB (devN n) = true := by
  have : ∀ m : Fin 20, wordB (devN m.val) = true := by decide +kernel
  exact this ⟨n, h⟩
theorem dev_inj (n m : Nat) (h : n < 20) (h2 : m < 20) : devN n = devN m ↔ n = m := by
  have : ∀ a b : Fin 20, devN a.val = devN b.val ↔ a.val = b.val := by decide +kernel
  exact this ⟨n, h⟩ ⟨m, h2⟩
theorem bys_open {H : Type} {enc : TypeId × Value → H} {w : World} {a : Option Addr} {len cap : Nat} {d : DataW H} {p : List MemPlace}
    (h : DataW.Trod enc Try.prog w 0 (fun _ => true) true 47 (.slice a len cap) d p) : ∃ l : List UInt8, l.length = len ∧ BysAt w a l := by
  obtain ⟨h1, h2, h3⟩ := slice_open Try.underlying47 (sz := 1) (by kernel_rfl) (by omega) h
  rcases h3 with h3 | ⟨b, off, ha, hb, hel⟩
  · exact ⟨[], h3.symm, list_nil w a⟩
  · obtain ⟨l, hl, hp⟩ := list_of (α := UInt8) (p := fun i x => CEnc encU w b (off + i * 1) x) (fun i hi => by
      obtain ⟨cs, y, n, e1, e2, e3⟩ := hel i hi
      obtain ⟨n0, e0, hn0⟩ := DataW.trod_int Try.underlying5 e3
      obtain ⟨_, hw⟩ := hn0
      have hb := bounds_u8 hw
      refine ⟨UInt8.ofNat n0.toNat, fun j v hv => ?_⟩
      have hj : j = 0 := by
        rcases Nat.eq_zero_or_pos j with h0 | h0
        · exact h0
        · rw [List.getElem?_eq_none (by simp [encU]; omega)] at hv; cases hv
      subst hj
      rw [e2 0 (by omega), e0]
      simp only [encU, List.getElem?_cons_zero] at hv ⊢
      rw [← hv]
      congr 2
      simp
      omega)
    exact ⟨l, hl, ⟨.inr ⟨b, off, ha, hb, fun i hi => hp i hi⟩, by omega⟩⟩
def devX (x : UInt8) : Str := devN (x.toNat % 20)
def sU : Str := [117]
/-- After the first observations. -/
structure Seen33 (U : Users) (l : List UInt8) : Prop where
  dev : (prof U sU).dev = devsL (l.map devX)
  few : U.length ≤ l.length
theorem Seen33.zero : Seen33 [] [] := ⟨rfl, by simp⟩
theorem seen_code {U : Users} {l : List UInt8} (h : Seen33 U l) (hl : l.length ≤ 60) (x : UInt8) : obsC U sU (devX x) [120] = 0 := by
  rw [obsC_few (by have := h.few; omega)]
  rw [show wordB sU = true by decide, show wordB (devX x) = true from dev_word _ (by omega), show wordB [120] = true by decide]
  rfl
theorem Seen33.next {U : Users} {l : List UInt8} (h : Seen33 U l) (hl : l.length ≤ 60) (x : UInt8) (now : Int) : Seen33 (obsU U sU (devX x) [120] now) (l ++ [x]) := by
  unfold obsU
  rw [if_pos (seen_code h hl x)]
  refine ⟨?_, ?_⟩
  · rw [prof_put]
    show movedL (prof U sU).dev (devX x) = _
    rw [h.dev]
    unfold devsL
    rw [List.map_append, List.foldl_append]
    rfl
  · rw [aput_len]
    have := h.few
    split <;> simp <;> omega
theorem dev_app (r : Nat) : ((⟨#[100]⟩ : ByteArray) ++ ⟨#[97 + UInt8.ofNat r]⟩).data.toList = devN r := by
  simp [devN, ByteArray.data_append, UInt8.ofNat_add]
/-- The devices from a place on, the last one first. -/
def dvs (l : List UInt8) (k : Nat) : List Str := ((l.drop k).map devX).reverse
def noB (l : List UInt8) (a b r : Nat) : Bool := ((l.drop a).take (b - a)).all fun y => y.toNat % 20 != r
theorem dvs_end (l : List UInt8) : dvs l l.length = [] := by simp [dvs]
theorem dvs_succ (l : List UInt8) (k : Nat) (h : k < l.length) : dvs l k = dvs l (k + 1) ++ [devX l[k]] := by
  unfold dvs
  rw [List.drop_eq_getElem_cons h]
  simp only [List.map_cons, List.reverse_cons]
theorem dvs_split (l : List UInt8) (k : Nat) (h : k < l.length) : (l.map devX).reverse = dvs l (k + 1) ++ devX l[k] :: ((l.take k).map devX).reverse := by
  have e : l = l.take k ++ l[k] :: l.drop (k + 1) := by rw [← List.drop_eq_getElem_cons h, List.take_append_drop]
  have e2 : (l.map devX).reverse = ((l.take k ++ l[k] :: l.drop (k + 1)).map devX).reverse := by rw [← e]
  rw [e2]
  simp only [dvs, List.map_append, List.map_cons, List.reverse_append, List.reverse_cons, List.append_assoc, List.singleton_append]
theorem noB_zero (l : List UInt8) (a r : Nat) : noB l a a r = true := by simp [noB]
theorem noB_next (l : List UInt8) (a b r : Nat) (hab : a ≤ b) (h : b < l.length) : noB l a (b + 1) r = (noB l a b r && (l[b].toNat % 20 != r)) := by
  unfold noB
  rw [show b + 1 - a = (b - a) + 1 by omega, List.take_succ_eq_append_getElem (by simp; omega), List.all_append]
  simp [show a + (b - a) = b by omega]
theorem dvs_has (l : List UInt8) (a : Nat) (x : UInt8) : (dvs l a).contains (devX x) = !noB l a l.length (x.toNat % 20) := by
  unfold dvs noB
  rw [List.take_of_length_le (by simp)]
  rw [Bool.eq_iff_iff, List.contains_iff_mem, List.mem_reverse, List.mem_map, Bool.not_eq_true', List.all_eq_false]
  constructor
  · rintro ⟨y, hy, e⟩
    refine ⟨y, hy, ?_⟩
    have := (dev_inj _ _ (Nat.mod_lt _ (by omega)) (Nat.mod_lt _ (by omega))).1 e
    simp [this]
  · rintro ⟨y, hy, e⟩
    refine ⟨y, hy, ?_⟩
    unfold devX
    rw [show y.toNat % 20 = x.toNat % 20 by simpa using e]
theorem dr_next (l : List UInt8) (k : Nat) (h : k < l.length) : (DR (dvs l k)).length = (DR (dvs l (k + 1))).length + if noB l (k + 1) l.length (l[k].toNat % 20) then 1 else 0 := by
  rw [dvs_succ l k h, DR_snoc, dvs_has]
  cases noB l (k + 1) l.length (l[k].toNat % 20) <;> rfl
theorem dr_le (l : List UInt8) (k : Nat) : (DR (dvs l k)).length ≤ l.length := by
  have h : ∀ r : List Str, (DR r).length ≤ r.length := by
    intro r
    induction r with
    | nil => simp [DR]
    | cons x r ih => have := List.length_filter_le (noS x) (DR r); simp [DR]; omega
  have := h (dvs l k)
  simp [dvs] at this
  have e : (dvs l k) = ((l.drop k).map devX).reverse := rfl
  rw [← List.map_drop] at this
  rw [e]
  simp at this ⊢
  omega
theorem notin_next {l : List UInt8} {k q : Nat} (h : k < l.length) (hn : devN q ∉ dvs l (k + 1)) (hq : q < 20) (hne : l[k].toNat % 20 ≠ q) : devN q ∉ dvs l k := by
  rw [dvs_succ l k h, List.mem_append, List.mem_singleton]
  rintro (h1 | h1)
  · exact hn h1
  · exact hne ((dev_inj _ _ hq (Nat.mod_lt _ (by omega))).1 h1).symm
theorem known_found {U : Users} {l : List UInt8} (hs : Seen33 U l) {k q : Nat} (h : k < l.length) (hn : devN q ∉ dvs l (k + 1)) (he : l[k].toNat % 20 = q) : knownB U sU (devN q) = decide ((DR (dvs l (k + 1))).length < 16) := by
  unfold knownB
  rw [hs.dev]
  refine devs_at (S := ((l.take k).map devX).reverse) ?_ hn
  rw [dvs_split l k h]
  unfold devX
  rw [he]
theorem known_none {U : Users} {l : List UInt8} (hs : Seen33 U l) {q : Nat} (hn : devN q ∉ dvs l 0) : knownB U sU (devN q) = false := by
  unfold knownB
  rw [hs.dev]
  exact devs_no (fun h => hn (by simpa [dvs] using h))
set_option maxHeartbeats 4000000 in
set_option maxRecDepth 100000 in
theorem forgets_walk {w : World} {a : Option Addr} {cap : Nat} {l : List UInt8} (h : BysAt w a l) :
    Calls Try.prog 7 #[.slice a l.length cap] w fun e w' => e = .returned (.bool true) ∧ Below w.heap.size w w' := by
  have hl := h.few
  unfold maxLen at hl
  have HL := hid h
  clear h
  go_enter Try.func7, Try.ntmps7
  go_wp2_with fail
  refine (new_prof _).mono ?_
  rintro e w1 ⟨rfl, h1, k1, z1⟩
  generalize hpb : w.heap.size + 1 = pb at *
  generalize hmb : w.heap.size = mb at *
  have HP1 := hid h1
  have HK1 := hid k1
  have HPB := hid (And.intro hpb hmb)
  clear h1 k1 z1 hpb hmb
  by_cases h60 : 60 < l.length
  · go_wp2_with fail
    refine (alive_any _).mono ?_
    rintro e w5 ⟨rfl, k5⟩
    go_wp2_with fail
    go_ret
    exact ⟨rfl, (HK1.out.step k5 (by simp)).bel⟩
  · go_wp2_with fail
    go_loopw [4] (fun i wr => ∃ (k : Nat) (U : Users), k ≤ l.length ∧ i = .int .i64 k ∧ ProfsAt wr pb mb U ∧ Seen33 U (l.take k) ∧ Kept [] w wr) (fun i _ => l.length - (intOf i).toNat)
    case atStart => exact ⟨0, [], Nat.zero_le _, rfl, HP1.out, Seen33.zero, HK1.out⟩
    case round =>
      obtain ⟨k, U, hk, rfl, hp, hs, hkw⟩ := hrel
      have HP := hid hp
      have HS := hid hs
      have HKW := hid hkw
      clear hp hs hkw
      by_cases hlt : k < l.length
      · obtain ⟨b, off, rfl, hb, hd⟩ := BysAt.get (HL.out.keptN HKW.out) hlt
        have hb1 : (0 : Int) ≤ k := by omega
        have hb2 : (k : Int) < l.length := by omega
        have hn : (l[k].toNat : Int) ≤ 255 := by have := l[k].toNat_lt; omega
        obtain ⟨r, hr⟩ : ∃ r : Nat, r = l[k].toNat % 20 := ⟨_, rfl⟩
        have hr2 : r < 20 := by omega
        have HR := hid hr
        have hbox := heap_alloc_new wr (.cells #[.int .u8 (97 + (r : Int))] 5 (0, 0))
        have hcv := fun c => dev_conv (wr.alloc (.cells #[.int .u8 (97 + (r : Int))] 5 (0, 0))) wr.heap.size c r hr2 (by rw [cell_at hbox]; rfl)
        have hr3 : (l[k].toNat : Int) % 20 = r := by omega
        clear hr
        have hdx : ((⟨#[100]⟩ : ByteArray) ++ ⟨#[97 + UInt8.ofNat r]⟩).data.toList = devX l[k] := by rw [dev_app, HR.out]; rfl
        have hob := observe_any (HP.out.keptN ((Kept.refl [] wr).alloc (.cells #[.int .u8 (97 + (r : Int))] 5 (0, 0)))) ⟨#[117]⟩ ((⟨#[100]⟩ : ByteArray) ++ ⟨#[97 + UInt8.ofNat r]⟩) ⟨#[120]⟩ (by decide) (by simp [maxLen, ByteArray.size]) (by decide) k
        rw [hdx] at hob
        change Calls _ _ _ _ fun e w' => e = .returned (.int .i64 (obsC U sU (devX l[k]) [120])) ∧ ProfsAt w' pb mb (obsU U sU (devX l[k]) [120] k) ∧ _ at hob
        rw [seen_code HS.out (by simp; omega)] at hob
        have HOB := hid hob
        have HN := hid (HS.out.next (by simp; omega) l[k] k)
        have HT := hid (List.take_succ_eq_append_getElem hlt)
        clear hob hdx
        go_wp2_with fail
        refine HOB.out.mono ?_
        rintro e w2 ⟨rfl, p2, k2⟩
        go_wp2_with fail
        go_roundw
        case rel => exact ⟨k + 1, _, by omega, by go_num, p2, by rw [HT.out]; exact HN.out, (HKW.out.alloc _).trans k2 (fun i hi => .inr (by have := HPB.out.2; simp at hi; omega))⟩
        case measure => simp [intOf]; omega
      · have HT := hid (List.take_of_length_le (l := l) (i := k) (by omega))
        rw [HT.out] at HS
        go_wp2_with fail
        go_loopw [5] (fun i wx => ∃ (q : Nat), q ≤ 20 ∧ i = .int .i64 q ∧ ProfsAt wx pb mb U ∧ Kept [] w wx) (fun i _ => 20 - (intOf i).toNat)
        case atStart => exact ⟨0, by omega, rfl, HP.out, HKW.out⟩
        case round =>
          obtain ⟨q, hq, rfl, hpx, hkx⟩ := hrel
          clear HP HKW
          have HP := hid hpx
          have HKX := hid hkx
          clear hkx hpx
          by_cases hlt2 : q < 20
          · have hq20 : decide ((q : Int) < 20) = true := by rw [decide_eq_true_eq]; omega
            have hbox := heap_alloc_new wr (.cells #[.int .u8 (97 + (q : Int))] 5 (0, 0))
            have hcv := fun c => dev_conv (wr.alloc (.cells #[.int .u8 (97 + (q : Int))] 5 (0, 0))) wr.heap.size c q hlt2 (by rw [cell_at hbox]; rfl)
            go_wp2_with fail
            have HKX2 := hid (HKX.out.alloc (.cells #[.int .u8 (97 + (q : Int))] 5 (0, 0)))
            have HP2 := hid (HP.out.keptN ((Kept.refl [] wr).alloc (.cells #[.int .u8 (97 + (q : Int))] 5 (0, 0))))
            obtain ⟨wq, HWQ⟩ : ∃ x, Hid (x = wr.alloc (.cells #[.int .u8 (97 + (q : Int))] 5 (0, 0))) := ⟨_, hid rfl⟩
            rw [← HWQ.out] at HKX2 HP2 ⊢
            have hdv := dev_app q
            generalize hdd : (({ data := #[100] } : ByteArray) ++ { data := #[97 + UInt8.ofNat q] }) = dv at *
            have HDV := hid hdv
            have HQ2 := hid hlt2
            clear hdv hdd hbox hcv
            obtain ⟨wo, HWO⟩ : ∃ wo : World, Hid (wo = wr) := ⟨_, hid rfl⟩
            go_loopw [7, 8, 9] (fun v n i wx => ∃ (m : Nat), m ≤ l.length ∧ v = .bool false ∧ n = .int .i64 ((DR (dvs l m)).length : Nat) ∧ i = .int .i64 ((m : Int) - 1) ∧ devN q ∉ dvs l m ∧ ProfsAt wx pb mb U ∧ Kept [] w wx) (fun _ _ i _ => (intOf i + 1).toNat)
            case atStart => exact ⟨l.length, by omega, rfl, by rw [dvs_end]; rfl, rfl, by rw [dvs_end]; simp, HP2.out, HKX2.out⟩
            case round =>
              obtain ⟨m, hm, rfl, rfl, rfl, hnot, hpx, hkx⟩ := hrel
              clear HP HKX HP2 HKX2 HWQ HWO wq wo
              have HP := hid hpx
              have HKX := hid hkx
              have HNOT := hid hnot
              clear hpx hkx hnot
              obtain ⟨N, HN⟩ : ∃ N, Hid ((DR (dvs l m)).length = N) := ⟨_, hid rfl⟩
              have hnl : N ≤ 60 := by have := dr_le l m; rw [← HN.out]; omega
              rw [HN.out]
              by_cases hm0 : 0 < m
              · obtain ⟨j, rfl⟩ : ∃ j, m = j + 1 := ⟨m - 1, by omega⟩
                rw [show (((j + 1 : Nat) : Int) - 1) = (j : Int) by omega]
                have hjl : j < l.length := by omega
                obtain ⟨b, off, rfl, hb, hd⟩ := BysAt.get (HL.out.keptN HKX.out) hjl
                have hb1 : (0 : Int) ≤ j := by omega
                have hb2 : (j : Int) < l.length := by omega
                have hn : (l[j].toNat : Int) ≤ 255 := by have := l[j].toNat_lt; omega
                obtain ⟨r, hr⟩ : ∃ r : Nat, r = l[j].toNat % 20 := ⟨_, rfl⟩
                have HR := hid hr
                have hr3 : (l[j].toNat : Int) % 20 = r := by omega
                clear hr
                by_cases hrq : r = q
                · have hb3 : ((r : Int) == (q : Int)) = true := by rw [beq_iff_eq]; omega
                  have HKN := hid (known_found HS.out hjl HNOT.out (by rw [← HR.out, hrq]))
                  rw [HN.out] at HKN
                  clear hrq
                  have hkn := known_any HP.out ⟨#[117]⟩ dv (by decide)
                  rw [HDV.out] at hkn
                  change Calls _ _ _ _ fun e w' => e = .returned (.bool (knownB U sU (devN q))) ∧ wr = w' at hkn
                  rw [HKN.out] at hkn
                  by_cases hN16 : N < 16
                  all_goals
                    first
                      | (rw [decide_eq_true hN16] at hkn; have hd16 : decide ((N : Int) < 16) = true := by rw [decide_eq_true_eq]; omega)
                      | (rw [decide_eq_false hN16] at hkn; have hd16 : decide ((N : Int) < 16) = false := by rw [decide_eq_false_iff_not]; omega)
                    have HKNN := hid hkn
                    clear hkn HKN
                    go_wp2_with fail
                    refine HKNN.out.mono ?_
                    rintro e w2 ⟨rfl, rfl⟩
                    go_wp2_with fail
                    go_roundw
                    case rel => exact ⟨q + 1, by have := HQ2.out; omega, by go_num, HP.out, HKX.out⟩
                    case measure => simp [intOf]; omega
                · have hb3 : ((r : Int) == (q : Int)) = false := by rw [beq_eq_false_iff_ne]; omega
                  have HNOT2 := hid (notin_next hjl HNOT.out HQ2.out (by rw [← HR.out]; exact hrq))
                  clear hrq
                  have HDN := hid (dr_next l j hjl)
                  rw [HN.out, ← HR.out] at HDN
                  go_wp2_with fail
                  try rw [hr3]
                  obtain ⟨wo, HWO⟩ : ∃ wo : World, Hid (wo = wr) := ⟨_, hid rfl⟩
                  go_loopw [10, 11] (fun v i wx => ∃ (t : Nat), t ≤ l.length ∧ j + 1 ≤ t ∧ i = .int .i64 t ∧ v = .bool (noB l (j + 1) t r) ∧ ProfsAt wx pb mb U ∧ Kept [] w wx) (fun _ i _ => l.length - (intOf i).toNat)
                  case atStart => exact ⟨j + 1, by omega, by omega, by first | rfl | go_num, by rw [noB_zero], HP.out, HKX.out⟩
                  case round =>
                    obtain ⟨t, ht, ht2, rfl, rfl, hpx, hkx⟩ := hrel
                    clear HP HKX HWO wo hd
                    have HP := hid hpx
                    have HKX := hid hkx
                    clear hpx hkx
                    by_cases htl : t < l.length
                    · obtain ⟨b', off', e', hb', hd2⟩ := BysAt.get (HL.out.keptN HKX.out) htl
                      obtain ⟨_, _, e'', _, hd1⟩ := BysAt.get (HL.out.keptN HKX.out) hjl
                      injection e' with e'; injection e' with e1 e2; subst e1; subst e2
                      injection e'' with e'; injection e' with e1 e2; subst e1; subst e2
                      have hc1 : (0 : Int) ≤ t := by omega
                      have hc2 : (t : Int) < l.length := by omega
                      have HNB := hid (noB_next l (j + 1) t r ht2 htl)
                      obtain ⟨s, hs⟩ : ∃ s : Nat, s = l[t].toNat % 20 := ⟨_, rfl⟩
                      have hn2 : (l[t].toNat : Int) ≤ 255 := by have := l[t].toNat_lt; omega
                      have hs3 : (l[t].toNat : Int) % 20 = s := by omega
                      rw [← hs] at HNB
                      clear hs
                      cases hfb : noB l (j + 1) t r
                      · rw [hfb] at HNB
                        clear hfb
                        go_wp2_with fail
                        go_quiet (fail)
                        go_wp2_with fail
                        go_roundw
                        case rel => exact ⟨t + 1, by omega, by omega, by go_num, by rw [HNB.out]; rfl, HP.out.keptN ((Kept.refl [] wr).drewN _), HKX.out.drewN _⟩
                        case measure => simp [intOf]; omega
                      · rw [hfb] at HNB
                        clear hfb
                        go_wp2_with fail
                        by_cases hsr : s = r
                        · have hb4 : ((s : Int) == (r : Int)) = true := by rw [beq_iff_eq]; omega
                          have hb5 : ((s : Int) != (r : Int)) = false := by simp [bne, hb4]
                          have HNB2 := hid (show noB l (j + 1) (t + 1) r = false by rw [HNB.out]; simp [hsr])
                          clear hsr
                          go_quiet (fail)
                          go_wp2_with fail
                          go_roundw
                          case rel => exact ⟨t + 1, by omega, by omega, by go_num, by rw [HNB2.out], HP.out.keptN ((Kept.refl [] wr).drewN _), HKX.out.drewN _⟩
                          case measure => simp [intOf]; omega
                        · have hb4 : ((s : Int) == (r : Int)) = false := by rw [beq_eq_false_iff_ne]; omega
                          have hb5 : ((s : Int) != (r : Int)) = true := by simp [bne, hb4]
                          have HNB2 := hid (show noB l (j + 1) (t + 1) r = true by rw [HNB.out]; simp [hsr])
                          clear hsr
                          go_quiet (fail)
                          go_wp2_with fail
                          go_roundw
                          case rel => exact ⟨t + 1, by omega, by omega, by go_num, by rw [HNB2.out], HP.out.keptN ((Kept.refl [] wr).drewN _), HKX.out.drewN _⟩
                          case measure => simp [intOf]; omega
                    · obtain rfl : t = l.length := by omega
                      cases hfb : noB l (j + 1) l.length r
                      all_goals
                        rw [hfb] at HDN
                        clear hfb
                        go_wp2_with fail
                        go_roundw
                        case rel => exact ⟨j, by omega, rfl, by rw [HDN.out]; first | done | rfl, rfl, HNOT2.out, HP.out, HKX.out⟩
                        case measure => first | (simp [intOf]; done) | (simp [intOf]; omega)
              · obtain rfl : m = 0 := by omega
                have HKN := hid (known_none HS.out HNOT.out)
                have hkn := known_any HP.out ⟨#[117]⟩ dv (by decide)
                rw [HDV.out] at hkn
                change Calls _ _ _ _ fun e w' => e = .returned (.bool (knownB U sU (devN q))) ∧ wr = w' at hkn
                rw [HKN.out] at hkn
                have HKNN := hid hkn
                clear hkn HKN
                go_wp2_with fail
                refine HKNN.out.mono ?_
                rintro e w2 ⟨rfl, rfl⟩
                go_wp2_with fail
                go_roundw
                case rel => exact ⟨q + 1, by have := HQ2.out; omega, by go_num, HP.out, HKX.out⟩
                case measure => simp [intOf]; omega
          · go_wp2_with fail
            refine (alive_any _).mono ?_
            rintro e w5 ⟨rfl, k5⟩
            go_wp2_with fail
            go_ret
            exact ⟨rfl, (HKX.out.step k5 (by simp)).bel⟩
end Go.Proofs.Ytbcbffmbpoffpaa
