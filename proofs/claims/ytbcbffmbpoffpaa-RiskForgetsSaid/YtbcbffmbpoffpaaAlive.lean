/- alive: the chapter's examples. -/
import Derived.Test.YtbcbffmbpoffpaaProf3
import Derived.Test.YtbcbffmbpoffpaaBand
namespace Go.Proofs.Ytbcbffmbpoffpaa
open Go.RowKit Go.Maps

theorem cells_of_cell {w : World} {b o : Nat} {v : Value} (h : w.cell? ⟨b, o, none⟩ = some v) : ∃ cs t fz, w.heap[b]? = some (.cells cs t fz) := by
  unfold World.cell? at h
  simp only at h
  cases hb : w.heap[b]? with
  | none => simp [hb] at h
  | some x => cases x <;> simp_all
/-- Signals stay while a map is written. -/
theorem SigsAt.keptM {w w' : World} {a : Option Addr} {l : List Sig} {mb : Nat} {L : List REnt} (h : SigsAt w a l) (hm : RawMap Try.prog 9 w mb L) (k : Kept [mb] w w') : SigsAt w' a l := by
  refine SeqAt.kept h CEnc.lasts k (fun h0 x hx => ?_)
  obtain ⟨b, off, e, hb, hc, _⟩ := SigsAt.get h h0
  rw [hx] at e
  injection e with e
  subst e
  obtain ⟨cs, t, fz, hcs⟩ := cells_of_cell hc
  simpa using hm.ne hcs
theorem ProfsAt.sigs {w w' : World} {pb mb : Nat} {U : Users} {a : Option Addr} {l : List Sig} (h : ProfsAt w pb mb U) (hs : SigsAt w a l) (k : Kept [mb] w w') : SigsAt w' a l := by
  obtain ⟨L, hm, _⟩ := h.map
  exact hs.keptM hm k
def lAnn : Str := [97, 110, 110]
def lD1 : Str := [100, 49]
def lDub : Str := [100, 117, 98, 108, 105, 110]
def lLon : Str := [108, 111, 110, 100, 111, 110]
def uAnn : Users := [(lAnn, ⟨[lD1], [lDub], 100⟩)]
theorem al1 : sigsL [] lAnn lD1 lDub 100 = [(sDevice, 1), (sPlace, 1), (sTravel, 0), (sFirst, 1)] := by decide +kernel
theorem al2 : obsC [] lAnn lD1 lDub = 0 := by decide +kernel
theorem al3 : obsU [] lAnn lD1 lDub 100 = uAnn := by kernel_rfl
theorem al4 : sigsL uAnn lAnn lD1 lLon 200 = [(sDevice, 0), (sPlace, 1), (sTravel, 1), (sFirst, 0)] := by decide +kernel
theorem al5 : sigsL uAnn lAnn lD1 lLon 3700 = [(sDevice, 0), (sPlace, 1), (sTravel, 0), (sFirst, 0)] := by decide +kernel
theorem al6 : clampZ (sumZ [(sDevice, 20), (sPlace, 15)] [(sDevice, 1), (sPlace, 1)]) = 35 := by decide +kernel
theorem al7 : clampZ (sumZ [([120], 4)] [([120], 4611686018427387904)]) = 100 := by decide +kernel
theorem al8 : knownB uAnn lAnn lD1 = true := by decide +kernel
theorem al9 : (alook uAnn lAnn).isSome = true := by decide +kernel
theorem al10 : adel uAnn lAnn = [] := by kernel_rfl
theorem fitS2 (a b : Str) (x y : Int) (h : -1000 ≤ x ∧ x ≤ 1000 ∧ -1000 ≤ y ∧ y ≤ 1000) : FitS [(a, x), (b, y)] := by
  intro z hz
  simp at hz
  rcases hz with rfl | rfl <;> constructor <;> dsimp only <;> omega
theorem fitS1 (a : Str) (x : Int) (h : 0 ≤ x ∧ x ≤ 9223372036854775807) : FitS [(a, x)] := by
  intro z hz
  simp at hz
  subst hz
  constructor <;> dsimp only <;> omega

theorem sameK_any {w : World} {a b : Option Addr} {cap cap2 : Nat} {l : List Sig} (h : SigsAt w a l) (h2 : SigsAt w b l) :
    Calls Try.prog 20 #[.slice a l.length cap, .slice b l.length cap2] w fun e w' => e = .returned (.bool true) ∧ Kept [] w w' :=
  (same_any h h2).mono fun _ _ ⟨he, n, hw⟩ => ⟨he, hw ▸ (Kept.refl [] w).drewN n⟩
set_option maxHeartbeats 4000000 in
set_option maxRecDepth 100000 in
theorem alive_any (w : World) :
    Calls Try.prog 10 #[] w fun e w' => e = .returned (.bool true) ∧ Kept [] w w' := by
  go_enter Try.func10, Try.ntmps10
  go_wp2_with fail
  refine (new_prof w).mono ?_
  rintro e w1 ⟨rfl, h1, k1, z1⟩
  generalize hpb : w.heap.size + 1 = pb at *
  generalize hmb : w.heap.size = mb at *
  have HPB := hid (And.intro hpb hmb)
  have HZ1 := hid z1
  clear hpb hmb z1
  have H1 := hid h1
  clear h1
  go_wp2_with fail
  refine (signals_any H1.out ⟨#[97, 110, 110]⟩ ⟨#[100, 49]⟩ ⟨#[100, 117, 98, 108, 105, 110]⟩ (by decide) 100).mono ?_
  rintro e w2 ⟨a2, c2, rfl, s2, k2⟩
  rw [show sigsL [] (⟨#[97, 110, 110]⟩ : ByteArray).data.toList (⟨#[100, 49]⟩ : ByteArray).data.toList (⟨#[100, 117, 98, 108, 105, 110]⟩ : ByteArray).data.toList 100 = [(sDevice, 1), (sPlace, 1), (sTravel, 0), (sFirst, 1)] from al1] at s2 ⊢
  have H2 := hid (H1.out.keptN k2)
  go_wp2_with fail
  refine (observe_any H2.out ⟨#[97, 110, 110]⟩ ⟨#[100, 49]⟩ ⟨#[100, 117, 98, 108, 105, 110]⟩ (by decide) (by decide) (by decide) 100).mono ?_
  rintro e w3 ⟨rfl, h3, k3⟩
  rw [show obsC [] (⟨#[97, 110, 110]⟩ : ByteArray).data.toList (⟨#[100, 49]⟩ : ByteArray).data.toList (⟨#[100, 117, 98, 108, 105, 110]⟩ : ByteArray).data.toList = 0 from al2]
  rw [show obsU [] (⟨#[97, 110, 110]⟩ : ByteArray).data.toList (⟨#[100, 49]⟩ : ByteArray).data.toList (⟨#[100, 117, 98, 108, 105, 110]⟩ : ByteArray).data.toList 100 = uAnn from al3] at h3
  have s3 := H2.out.sigs s2 k3
  have H3 := hid h3
  clear h3 s2
  go_wp2_with fail
  refine (signals_any H3.out ⟨#[97, 110, 110]⟩ ⟨#[100, 49]⟩ ⟨#[108, 111, 110, 100, 111, 110]⟩ (by decide) 200).mono ?_
  rintro e w4 ⟨a4, c4, rfl, s4, k4⟩
  rw [show sigsL uAnn (⟨#[97, 110, 110]⟩ : ByteArray).data.toList (⟨#[100, 49]⟩ : ByteArray).data.toList (⟨#[108, 111, 110, 100, 111, 110]⟩ : ByteArray).data.toList 200 = [(sDevice, 0), (sPlace, 1), (sTravel, 1), (sFirst, 0)] from al4] at s4 ⊢
  have H4 := hid (H3.out.keptN k4)
  go_wp2_with fail
  refine (signals_any H4.out ⟨#[97, 110, 110]⟩ ⟨#[100, 49]⟩ ⟨#[108, 111, 110, 100, 111, 110]⟩ (by decide) 3700).mono ?_
  rintro e w5 ⟨a5, c5, rfl, s5, k5⟩
  rw [show sigsL uAnn (⟨#[97, 110, 110]⟩ : ByteArray).data.toList (⟨#[100, 49]⟩ : ByteArray).data.toList (⟨#[108, 111, 110, 100, 111, 110]⟩ : ByteArray).data.toList 3700 = [(sDevice, 0), (sPlace, 1), (sTravel, 0), (sFirst, 0)] from al5] at s5 ⊢
  have H5 := hid (H4.out.keptN k5)
  obtain ⟨q0, q1⟩ := heap_two w5 (.cells #[.string ⟨#[100, 101, 118, 105, 99, 101]⟩, .int .i64 1, .string ⟨#[112, 108, 97, 99, 101]⟩, .int .i64 1] 43 (0, 0)) (.cells #[.string ⟨#[100, 101, 118, 105, 99, 101]⟩, .int .i64 20, .string ⟨#[112, 108, 97, 99, 101]⟩, .int .i64 15] 43 (0, 0))
  have b0 := hid (list_box encGOk (l := [(sDevice, 1), (sPlace, 1)]) q0 (by simp [rowV, encG, sV, sDevice, sPlace]) (by simp [maxLen]))
  have b1 := hid (list_box encGOk (l := [(sDevice, 20), (sPlace, 15)]) q1 (by simp [rowV, encG, sV, sDevice, sPlace]) (by simp [maxLen]))
  have hk56 := hid (((Kept.refl [] w5).alloc (.cells #[.string ⟨#[100, 101, 118, 105, 99, 101]⟩, .int .i64 1, .string ⟨#[112, 108, 97, 99, 101]⟩, .int .i64 1] 43 (0, 0))).alloc (.cells #[.string ⟨#[100, 101, 118, 105, 99, 101]⟩, .int .i64 20, .string ⟨#[112, 108, 97, 99, 101]⟩, .int .i64 15] 43 (0, 0)))
  clear q0 q1
  go_wp2_with fail
  refine (score_any b0.out b1.out (by decide) (fitS2 _ _ _ _ (by decide)) (fitS2 _ _ _ _ (by decide))).mono ?_
  rw [al6]
  rintro e w6 ⟨rfl, k6⟩
  have k56 := hk56.out.step k6 (by simp)
  go_wp2_with fail
  refine (band_any 29 _).mono ?_
  rw [show bandS 29 = [108, 111, 119] by decide]
  rintro e w7 ⟨rfl, k7⟩
  go_wp2_with fail
  refine (band_any 35 _).mono ?_
  rw [show bandS 35 = [109, 101, 100, 105, 117, 109] by decide]
  rintro e w8 ⟨rfl, k8⟩
  go_wp2_with fail
  refine (band_any 70 _).mono ?_
  rw [show bandS 70 = [104, 105, 103, 104] by decide]
  rintro e w9 ⟨rfl, k9⟩
  have k59 := ((k56.step k7 (by simp)).step k8 (by simp)).step k9 (by simp)
  have H9 := hid (H5.out.keptN k59)
  have t2 := ((s3.keptN k4).keptN k5).keptN k59
  have t4 := (s4.keptN k5).keptN k59
  have t5 := s5.keptN k59
  have g9 := (Kept.refl [] w9).alloc (.cells #[.string ⟨#[100, 101, 118, 105, 99, 101]⟩, .int .i64 1, .string ⟨#[112, 108, 97, 99, 101]⟩, .int .i64 1, .string ⟨#[116, 114, 97, 118, 101, 108]⟩, .int .i64 0, .string ⟨#[102, 105, 114, 115, 116]⟩, .int .i64 1] 43 (0, 0))
  have p9 := list_box encGOk (l := [(sDevice, 1), (sPlace, 1), (sTravel, 0), (sFirst, 1)]) (heap_alloc_new w9 (.cells #[.string ⟨#[100, 101, 118, 105, 99, 101]⟩, .int .i64 1, .string ⟨#[112, 108, 97, 99, 101]⟩, .int .i64 1, .string ⟨#[116, 114, 97, 118, 101, 108]⟩, .int .i64 0, .string ⟨#[102, 105, 114, 115, 116]⟩, .int .i64 1] 43 (0, 0))) (by simp [rowV, encG, sV, sDevice, sPlace, sTravel, sFirst]) (by simp [maxLen])
  have P9 := hid p9
  clear s3 s4 s5 p9
  have T2 := hid t2
  have T4 := hid t4
  have T5 := hid t5
  clear t2 t4 t5
  have G9 := hid g9
  clear g9
  go_wp2_with fail
  have hS := sameK_any (cap := c2) (cap2 := 4) (T2.out.keptN G9.out) P9.out
  simp only [List.length_cons, List.length_nil, Nat.zero_add, Nat.reduceAdd] at hS
  refine hS.mono ?_
  clear hS
  rintro e w10 ⟨rfl, k10⟩
  have g10 := hid (((G9.out.step k10 (by simp))).alloc (.cells #[.string ⟨#[100, 101, 118, 105, 99, 101]⟩, .int .i64 0, .string ⟨#[112, 108, 97, 99, 101]⟩, .int .i64 1, .string ⟨#[116, 114, 97, 118, 101, 108]⟩, .int .i64 1, .string ⟨#[102, 105, 114, 115, 116]⟩, .int .i64 0] 43 (0, 0)))
  have P10 := hid (list_box encGOk (l := [(sDevice, 0), (sPlace, 1), (sTravel, 1), (sFirst, 0)]) (heap_alloc_new w10 (.cells #[.string ⟨#[100, 101, 118, 105, 99, 101]⟩, .int .i64 0, .string ⟨#[112, 108, 97, 99, 101]⟩, .int .i64 1, .string ⟨#[116, 114, 97, 118, 101, 108]⟩, .int .i64 1, .string ⟨#[102, 105, 114, 115, 116]⟩, .int .i64 0] 43 (0, 0))) (by simp [rowV, encG, sV, sDevice, sPlace, sTravel, sFirst]) (by simp [maxLen]))
  go_wp2_with fail
  have hS := sameK_any (cap := c4) (cap2 := 4) (T4.out.keptN g10.out) P10.out
  simp only [List.length_cons, List.length_nil, Nat.zero_add, Nat.reduceAdd] at hS
  refine hS.mono ?_
  clear hS
  rintro e w11 ⟨rfl, k11⟩
  have g11 := hid (g10.out.step k11 (by simp))
  have t5 := T5.out.keptN g11.out
  obtain ⟨b, off, rfl, hb, hc0, hc1⟩ := SigsAt.get t5 (i := 2) (by decide)
  simp only [List.getElem_cons_succ, List.getElem_cons_zero] at hc1
  clear hc0 t5 hb
  go_wp2_with fail
  obtain ⟨q0, q1⟩ := heap_two w11 (.cells #[.string ⟨#[120]⟩, .int .i64 4611686018427387904] 43 (0, 0)) (.cells #[.string ⟨#[120]⟩, .int .i64 4] 43 (0, 0))
  have y0 := list_box encGOk (l := [([120], 4611686018427387904)]) q0 (by simp [rowV, encG, sV]) (by simp [maxLen])
  have y1 := list_box encGOk (l := [([120], 4)]) q1 (by simp [rowV, encG, sV]) (by simp [maxLen])
  have hk12 := hid (((Kept.refl [] w11).alloc (.cells #[.string ⟨#[120]⟩, .int .i64 4611686018427387904] 43 (0, 0))).alloc (.cells #[.string ⟨#[120]⟩, .int .i64 4] 43 (0, 0)))
  have hS := score_any (cap := 1) (cap2 := 1) y0 y1 (by decide) (fitS1 _ _ (by decide)) (fitS1 _ _ (by decide))
  rw [al7] at hS
  simp only [List.length_cons, List.length_nil, Nat.zero_add] at hS
  clear q0 q1 y0 y1 hc1
  refine hS.mono ?_
  clear hS
  rintro e w12 ⟨rfl, k12⟩
  have H12 := hid (H9.out.keptN ((g11.out.step hk12.out (by simp)).step k12 (by simp)))
  go_wp2_with fail
  refine (known_any H12.out ⟨#[97, 110, 110]⟩ ⟨#[100, 49]⟩ (by decide)).mono ?_
  rw [show knownB uAnn (⟨#[97, 110, 110]⟩ : ByteArray).data.toList (⟨#[100, 49]⟩ : ByteArray).data.toList = true from al8]
  rintro e w' ⟨rfl, rfl⟩
  go_wp2_with fail
  refine (drop_any H12.out ⟨#[97, 110, 110]⟩ (by decide)).mono ?_
  rw [show (alook uAnn (⟨#[97, 110, 110]⟩ : ByteArray).data.toList).isSome = true from al9, show adel uAnn (⟨#[97, 110, 110]⟩ : ByteArray).data.toList = [] from al10]
  rintro e w13 ⟨rfl, h13, k13⟩
  have H13 := hid h13
  clear h13
  go_wp2_with fail
  refine (drop_any H13.out ⟨#[97, 110, 110]⟩ (by decide)).mono ?_
  rintro e w14 ⟨rfl, h14, k14⟩
  rw [show (alook ([] : Users) (⟨#[97, 110, 110]⟩ : ByteArray).data.toList).isSome = false from rfl]
  go_wp2_with fail
  go_ret
  have kk := (((((((k1.step k2 (by simp)).mono (T := [mb]) (by simp)).step k3 (by simp)).step (k4.mono (T := [mb]) (by simp)) (by simp)).step (k5.mono (T := [mb]) (by simp)) (by simp)).step ((((k59.step g11.out (by simp)).step hk12.out (by simp)).step k12 (by simp)).mono (T := [mb]) (by simp)) (by simp)).step k13 (by simp)).step k14 (by simp)
  exact ⟨rfl, kk.mono (fun i hi => by simp at hi; right; rw [hi]; exact Nat.le_of_eq HPB.out.2)⟩
end Go.Proofs.Ytbcbffmbpoffpaa
