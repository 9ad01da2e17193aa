/- observe, zero; an operation by value. -/
import Derived.Test.YtbcbffmbpoffpaaOpsR
namespace Go.Proofs.Ytbcbffmbpoffpaa
open Go.RowKit Go.Maps Go.ChangeShapes Go.WideShapes Go.ChangeAt

theorem array5 {α : Type} {cs : Array α} (h : cs.size = 5) : ∃ c0 c1 c2 c3 c4, cs = #[c0, c1, c2, c3, c4] := by
  obtain ⟨l⟩ := cs
  match l, h with
  | [c0, c1, c2, c3, c4], _ => exact ⟨c0, c1, c2, c3, c4, rfl⟩
theorem op_agg {H : Type} {enc : TypeId × Value → H} {r : Reach} {b0 : Nat} {w : World} {v : Value} {d : DataW H} {p : List MemPlace} (hv : Value.okWide Try.prog w r b0 35 v)
    (h : DataW.Trod enc Try.prog w 0 (fun _ => true) true 35 v d p) : ∃ x : OpD, v = .agg #[.int .i64 x.kind, .string ⟨x.u.toArray⟩, .string ⟨x.d.toArray⟩, .string ⟨x.p.toArray⟩, .int .i64 x.now] ∧ True := by
  obtain ⟨cs, rfl, hsz⟩ := okWide_struct Try.underlying35 hv
  have hC : Try.prog.cellsOf 35 = 5 := by kernel_rfl
  obtain ⟨c0, c1, c2, c3, c4, rfl⟩ := array5 (hsz.trans hC)
  obtain ⟨fuel, hf⟩ := h
  obtain ⟨xs, m, _, _, _, hlen, hf⟩ := DataW.trod_struct Try.underlying35 hf
  have hlen5 : xs.length = 5 := hlen
  have zi : Try.prog.cellsOf 9 = 1 := by kernel_rfl
  have zj : Try.prog.cellsOf 3 = 1 := by kernel_rfl
  have f0 := hf 0 _ rfl
  have f1 := hf 1 _ rfl
  have f2 := hf 2 _ rfl
  have f3 := hf 3 _ rfl
  have f4 := hf 4 _ rfl
  match xs, hlen5 with
  | [x0, x1, x2, x3, x4], _ =>
    obtain ⟨n0, e0, _⟩ := DataW.trod_int Try.underlying3 f0
    obtain ⟨n1, e1, _⟩ := DataW.trod_string Try.underlying9 f1
    obtain ⟨n2, e2, _⟩ := DataW.trod_string Try.underlying9 f2
    obtain ⟨n3, e3, _⟩ := DataW.trod_string Try.underlying9 f3
    obtain ⟨n4, e4, _⟩ := DataW.trod_int Try.underlying3 f4
    have k0 : c0 = .int .i64 n0 := by simpa [zj, Value.cells] using e0
    have k1 : c1 = .string n1 := by simpa [zi, zj, Value.cells] using e1
    have k2 : c2 = .string n2 := by simpa [zi, zj, Value.cells] using e2
    have k3 : c3 = .string n3 := by simpa [zi, zj, Value.cells] using e3
    have k4 : c4 = .int .i64 n4 := by simpa [zi, zj, Value.cells] using e4
    exact ⟨⟨n0, n1.data.toList, n2.data.toList, n3.data.toList, n4⟩, by rw [k0, k1, k2, k3, k4], trivial⟩

/-- What 'observe' does with one operation. -/
def stepO (U : Users) (x : OpD) : Users := if x.kind = 3 then adel U x.u else obsU U x.u x.d x.p x.now
def foldO (U : Users) (l : List OpD) : Users := l.foldl stepO U
theorem foldO_snoc (U : Users) (l : List OpD) (k : Nat) (h : k < l.length) : foldO U (l.take (k + 1)) = stepO (foldO U (l.take k)) l[k] := by
  unfold foldO
  rw [List.take_succ_eq_append_getElem h, List.foldl_append]
  rfl
/-- 'observe' came back. -/
def ObsDone (w w' : World) (e : Ending) (pb mb : Nat) (U : Users) : Prop := (∃ v, e = .returned v) ∧ ProfsAt w' pb mb U ∧ Kept [mb] w w'
set_option maxHeartbeats 1000000 in
set_option maxRecDepth 100000 in
theorem observeL_any {w : World} {pb mb : Nat} {U : Users} {a : Option Addr} {cap : Nat} {l : List OpD} (h : ProfsAt w pb mb U) (hl : OpsAt w a l) (hne : 0 < l.length → ∀ i ∈ fp a, i ≠ mb) (hsm : ∀ x ∈ l, Small x) :
    Calls Try.prog 27 #[.pointer (some ⟨pb, 0, none⟩), .slice a l.length cap] w fun e w' => ObsDone w w' e pb mb (foldO U l) := by
  have hf := hl.few
  unfold maxLen at hf
  have HH := hid h
  have HL := hid hl
  have HNE := hid hne
  have HSM := hid hsm
  clear h hl hne hsm
  go_enter Try.func27, Try.ntmps27
  go_wp2_with fail
  go_loopw [4] (fun i wr => ∃ (k : Nat), k ≤ l.length ∧ i = .int .i64 k ∧ ProfsAt wr pb mb (foldO U (l.take k)) ∧ Kept [mb] w wr) (fun i _ => l.length - (intOf i).toNat)
  case atStart => exact ⟨0, Nat.zero_le _, rfl, HH.out, Kept.refl _ _⟩
  case round =>
    obtain ⟨k, hk, rfl, hpr, hkw⟩ := hrel
    have HP := hid hpr
    have HK := hid hkw
    clear hpr hkw
    by_cases hlt : k < l.length
    · obtain ⟨b, off, rfl, hb, hd0, hd1, hd2, hd3, hd4⟩ := OpsAt.get HL.out hlt
      have hn := HNE.out (by omega) b (by simp [fp])
      have hb1 : (0 : Int) ≤ k := by omega
      have hb2 : (k : Int) < l.length := by omega
      have HS := hid (HSM.out _ (List.getElem_mem hlt))
      have HF := hid (foldO_snoc U l k hlt)
      have c0 := (HK.out.cell hb (by simpa using hn)).trans hd0
      have c1 := (HK.out.cell hb (by simpa using hn)).trans hd1
      have c2 := (HK.out.cell hb (by simpa using hn)).trans hd2
      have c3 := (HK.out.cell hb (by simpa using hn)).trans hd3
      have c4 := (HK.out.cell hb (by simpa using hn)).trans hd4
      obtain ⟨V, HV⟩ : ∃ V, Hid (V = foldO U (l.take k)) := ⟨_, hid rfl⟩
      rw [← HV.out] at HP HF
      generalize hx : l[k] = x at *
      clear hd0 hd1 hd2 hd3 hd4 hx
      by_cases x3 : x.kind = 3
      · have hq : (x.kind == 3) = true := by rw [beq_iff_eq]; exact x3
        have HE := hid (show stepO V x = adel V x.u by unfold stepO; rw [if_pos x3])
        clear x3
        go_wp2_with fail
        refine (drop_any HP.out ⟨x.u.toArray⟩ HS.out.u).mono ?_
        rintro e w1 ⟨rfl, p1, k1⟩
        go_wp2_with fail
        go_roundw
        case rel => exact ⟨k + 1, by omega, by go_num, by rw [HF.out, HE.out]; exact p1, HK.out.step k1 (by simp)⟩
        case measure => simp [intOf]; omega
      · have hq : (x.kind == 3) = false := by rw [beq_eq_false_iff_ne]; exact x3
        have HE := hid (show stepO V x = obsU V x.u x.d x.p x.now by unfold stepO; rw [if_neg x3])
        clear x3
        have hd := HP.out.keptN ((Kept.refl [] wr).drew)
        have HPD := hid hd
        clear hd
        go_wp2_with fail
        go_still_tail 21, (by kernel_rfl)
        change wpList _ _ _ _ _ wr.drew
        go_wp2_with (go_at_call 18; refine (observe_any HPD.out ⟨x.u.toArray⟩ ⟨x.d.toArray⟩ ⟨x.p.toArray⟩ HS.out.u HS.out.d HS.out.p x.now).mono ?_; rintro e w1 ⟨rfl, p1, k1⟩)
        go_roundw
        case rel => exact ⟨k + 1, by omega, by go_num, by rw [HF.out, HE.out]; exact p1, HK.out.drew.step k1 (by simp)⟩
        case measure => simp [intOf]; omega
    · have HT := hid (List.take_of_length_le (l := l) (i := k) (by omega))
      go_wp2_with fail
      first
        | refine bodyPost_ret (results_none rfl _ _ _) rfl ?_
        | refine bodyPost_end (results_none rfl _ _ _) rfl ?_
      rw [HT.out] at HP
      exact ⟨⟨_, rfl⟩, HP.out, HK.out⟩
set_option maxHeartbeats 400000 in
theorem zero_any {w : World} {a : Option Addr} {cap : Nat} {l : List Sig} (h : SigsAt w a l) :
    Calls Try.prog 29 #[.slice a l.length cap] w fun e w' => e = .returned (.bool (l.all (fun x => x.2 == 0) && decide (l.length = 4))) ∧ w = w' := by
  have hf := h.few
  unfold maxLen at hf
  go_enter Try.func29, Try.ntmps29
  go_wp2_with fail
  go_loop [3] (fun i => ∃ k : Nat, k ≤ l.length ∧ i = .int .i64 k ∧ NoneTo (fun x => !(x.2 == 0)) l k) (fun i => l.length - (intOf i).toNat)
  case atStart => exact ⟨0, Nat.zero_le _, rfl, NoneTo.zero _ _⟩
  case round =>
    obtain ⟨k, hk, rfl, hn⟩ := hrel
    by_cases hlt : k < l.length
    · obtain ⟨b, off, rfl, hb, hc0, hc1⟩ := SigsAt.get h hlt
      have hb1 : (0 : Int) ≤ k := by omega
      have hb2 : (k : Int) < l.length := by omega
      cases hp : (l[k].2 == 0)
      · have HP := hid hp
        clear hc0
        go_wp2_with fail
        go_ret
        refine ⟨ret_bool ?_, rfl⟩
        rw [show l.all (fun x => x.2 == 0) = false from List.all_eq_false.2 ⟨_, List.getElem_mem hlt, by simp [HP.out]⟩, Bool.false_and]
      · have HP := hid hp
        clear hc0
        go_wp2_with fail
        go_round
        case rel => exact ⟨k + 1, by omega, by go_num, hn.next hlt (by simp [HP.out])⟩
        case measure => simp [intOf]; omega
    · have hx := hid (show l.all (fun x => x.2 == 0) = true from List.all_eq_true.2 (fun x hx => by have := hn.all (by omega) x hx; simpa using this))
      go_wp2_with fail
      go_ret
      refine ⟨ret_bool ?_, rfl⟩
      rw [hx.out, Bool.true_and, Bool.eq_iff_iff, decide_eq_true_eq]
      simp
      omega
end Go.Proofs.Ytbcbffmbpoffpaa
