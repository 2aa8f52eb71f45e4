/-
  Whether what a value has may be: ranks. Conditions: as stated.
-/
import Derived.Test.YtgmnnpbbiejbnaaGreatMgB
import Derived.Test.YtgmnnpbbiejbnaaGreatVaD
import Derived.Maps.OwnOps
import Derived.Maps.Views
set_option maxRecDepth 100000
set_option linter.unusedSimpArgs false
set_option linter.unusedVariables false
namespace Go.Proofs.YtgmnnpbbiejbnaaGreat.VaG
open Go.RowKit Go.Proofs.YtgmnnpbbiejbnaaGreat.Mem Go.Proofs.YtgmnnpbbiejbnaaGreat.VaA Go.Proofs.YtgmnnpbbiejbnaaGreat.VaB Go.Proofs.YtgmnnpbbiejbnaaGreat.VaC Go.Proofs.YtgmnnpbbiejbnaaGreat.VaD Go.Proofs.YtgmnnpbbiejbnaaGreat.VaE Go.Proofs.YtgmnnpbbiejbnaaGreat.VaF

theorem take_one {α : Type} {l : List α} {k : Nat} {x : α} (h : l[k]? = some x) : l.take (k + 1) = l.take k ++ [x] := by
  obtain ⟨hk, e⟩ := List.getElem?_eq_some_iff.1 h
  rw [List.take_succ_eq_append_getElem hk, e]
abbrev Dt := DataW (TypeId × Value)
def keyL (s : ByteArray) : Lit := .string s.data.toList
theorem keyL_inj {s t : ByteArray} (h : keyL s = keyL t) : s = t := by
  unfold keyL at h; injection h with h
  cases s; cases t; simp_all
/-- The map holds 1 at each name of the list, and nothing else. -/
def Seen (l : List (ByteArray × Int)) (D : Dt) : Prop := Maps.IsMap D ∧ (∀ x ∈ l, D.atKey (keyL x.1) (.lit (.int .i64 0)) = .lit (.int .i64 1)) ∧ ∀ s, (∀ x ∈ l, x.1 ≠ s) → D.atKey (keyL s) (.lit (.int .i64 0)) = .lit (.int .i64 0)
theorem seen_nil : Seen [] (.map []) := by
  refine ⟨Maps.isMap_empty, ?_, ?_⟩
  · intro x h; simp at h
  · intro s _; rfl
theorem key_ok (s : ByteArray) : WideAt.IsKeyLit (keyL s) := by trivial
theorem seen_put {l : List (ByteArray × Int)} {D : Dt} (h : Seen l D) (x : ByteArray × Int) : Seen (l ++ [x]) (D.put (keyL x.1) (.lit (.int .i64 1))) := by
  refine ⟨h.1.put _ _, fun y hy => ?_, fun s hs => ?_⟩
  · by_cases e : y.1 = x.1
    · rw [e]; exact Maps.atKey_put_same h.1 (key_ok _) _ _
    · rw [Maps.atKey_put_other (fun e' => e (keyL_inj e'))]
      rcases List.mem_append.1 hy with hy | hy
      · exact h.2.1 y hy
      · rw [List.mem_singleton.1 hy] at e; exact absurd rfl e
  · rw [Maps.atKey_put_other (fun e' => hs x (by simp) (keyL_inj e').symm)]
    exact h.2.2 s (fun y hy => hs y (by simp [hy]))
/-- One entry of a rank stands ahead of another. -/
def ahead (a b : ByteArray × Int) : Bool := decide (a.2 < b.2) || (a.2 == b.2 && ltS a.1 b.1)
def okK1 (x : ByteArray × Int) : Bool := shortB x.1 && decide (-9007199254740992 ≤ x.2) && decide (x.2 ≤ 9007199254740992)
/-- A rank's entries: short, their scores in bounds, in order, no name twice. -/
def okK (l : List (ByteArray × Int)) : Bool := l.all okK1 && (ris ahead l && decide ((l.map Prod.fst).Nodup))
theorem okK_1 {l : List (ByteArray × Int)} {k : Nat} {x : ByteArray × Int} (h : l[k]? = some x) (hx : okK1 x = false) : okK l = false := by unfold okK; rw [not_all h hx]; rfl
theorem okK_2 {l : List (ByteArray × Int)} {j : Nat} {a b : ByteArray × Int} (ha : l[j]? = some a) (hb : l[j + 1]? = some b) (h : ahead a b = false) : okK l = false := by unfold okK; rw [ris_not ha hb h]; simp
theorem okK_3 {l : List (ByteArray × Int)} {k : Nat} {x : ByteArray × Int} (h : l[k]? = some x) (hx : ∃ y ∈ l.take k, y.1 = x.1) : okK l = false := by
  unfold okK
  have : ¬ (l.map Prod.fst).Nodup := fun hn => by
    obtain ⟨y, hy, e⟩ := hx
    obtain ⟨i, hi, e2⟩ := List.mem_iff_getElem.1 hy
    rw [List.length_take] at hi
    have hi2 : (l.map Prod.fst)[i]? = some x.1 := by
      rw [List.getElem_take] at e2
      rw [List.getElem?_map, List.getElem?_eq_getElem (by omega), e2]; simp [e]
    have hk2 : (l.map Prod.fst)[k]? = some x.1 := by rw [List.getElem?_map, h]; rfl
    have := (List.getElem?_inj (by simp; omega) hn).1 (hi2.trans hk2.symm)
    omega
  simp [this]

theorem make_hint (hint : Int) (w : World) : (Instr.makeMap 126 (some (.int .i64 hint))).run Tryz.prog w = .ok (.map (some w.heap.size)) (w.alloc (.map #[] 0)) := by
  simp [Instr.makeMap, run_underlying Tryz.underlying126, asInt, asIntOf, Result.andThen]
set_option maxHeartbeats 4000000 in
theorem rightK_calls (A : Option Addr) (n c : Nat) (l : List (ByteArray × Int)) (w : World) (hr : RdK w A n c l) (hn : n ≤ 100000000) (hz : ∀ x ∈ l, x.1.size ≤ maxLen) :
    Calls Tryz.prog 167 #[.slice A n c] w fun e w' => e = .returned (.bool (okK l)) ∧ Below w.heap.size w w' := by
  obtain rfl := rdk_len hr
  have hcap := hr.cap
  have hbig : c ≤ 9223372036854775807 := hr.big
  have hmk := make_hint l.length w
  go_enter Tryz.func167, Tryz.ntmps167
  go_wp2_with fail
  have hM0 := World.ownsMap_made (H := TypeId × Value) w Tryz.prog 9 (plainElem Tryz.prog 3)
  go_loopw [11] (fun i wr => ∃ (k : Nat) (D : Dt), k ≤ l.length ∧ i = .int .i64 k ∧ wr.ownsMap Tryz.prog 9 (plainElem Tryz.prog 3) w.heap.size k D ∧ Seen (l.take k) D ∧
      ((l.take k).all okK1 = true ∧ (∀ j a b, j + 1 < k → l[j]? = some a → l[j + 1]? = some b → ahead a b = true) ∧ ((l.take k).map Prod.fst).Nodup) ∧ Below w.heap.size w wr) (fun i _ => l.length - (intOf i).toNat)
  case atStart => exact ⟨0, .map [], Nat.zero_le _, rfl, hM0, seen_nil, ⟨rfl, fun j a b h => by omega, by simp⟩, (Below.refl _ w).alloc (Nat.le_refl _) _⟩
  case round =>
    obtain ⟨k, D, hk, rfl, hM, hS, hin, hb⟩ := hrel
    have Hin := Lib.hid (And.intro hS hin)
    clear hin hS hM0
    by_cases hlt : k < l.length
    · obtain ⟨f, hf⟩ : ∃ f, l[k]? = some f := ⟨_, List.getElem?_eq_getElem hlt⟩
      obtain ⟨p, rfl, cp0, cp1⟩ := rdk_get (hr.below hb) hf
      have k0 : wr.cell? (p.add (k * 2)) = some (.string f.1) := cp0
      have k1 : wr.cell? ⟨(p.add (k * 2)).block, (p.add (k * 2)).off + 1, none⟩ = some (.int .i64 f.2) := cp1
      obtain ⟨b1, h1⟩ : ∃ b1, shortB f.1 = b1 := ⟨_, rfl⟩
      have Hf := Lib.hid hf
      have Hb := Lib.hid hb
      clear cp0 cp1 hf hb
      have hMa := hM.alloc (.cells #[.string f.1, .int .i64 f.2] 115)
      obtain ⟨cc, hlk, hat, hwf⟩ := hMa.lookup_int (Maps.string_keyed Tryz.underlying9) Tryz.underlying126 Tryz.underlying3 (Tryz.zeroValue3 _) (key := .string f.1) (kl := keyL f.1) (by simp [keyOf, Tryz.underlying9, mapKey, keyL]; exact hz _ (List.mem_of_getElem? Hf.out))
      have Ha := Lib.hid (And.intro hat (And.intro hwf (And.intro hM hMa)))
      clear hat hwf hM hMa
      have S1 : ∀ w', Calls Tryz.prog 150 #[.string f.1] w' fun e w'' => e = .returned (.bool b1) ∧ w'' = w' := fun w' => by rw [← h1]; exact short_calls f.1 w'
      have H1 := Lib.hid h1
      clear h1
      cases b1
      · go_wp2_with (go_at_call 150; refine (S1 _).mono ?_; rintro e w2 ⟨rfl, rfl⟩)
        go_ret
        exact ⟨by rw [okK_1 Hf.out (by unfold okK1; rw [H1.out]; rfl)]; rfl, (Hb.out).alloc Hb.out.size _⟩
      by_cases hlo : f.2 < -9007199254740992
      · go_wp2_with (go_at_call 150; refine (S1 _).mono ?_; rintro e w2 ⟨rfl, rfl⟩)
        go_ret
        exact ⟨by rw [okK_1 Hf.out (by unfold okK1; rw [H1.out]; simp; omega)]; rfl, (Hb.out).alloc Hb.out.size _⟩
      by_cases hhi : 9007199254740992 < f.2
      · go_wp2_with (go_at_call 150; refine (S1 _).mono ?_; rintro e w2 ⟨rfl, rfl⟩)
        go_ret
        exact ⟨by rw [okK_1 Hf.out (by unfold okK1; rw [H1.out]; simp; omega)]; rfl, (Hb.out).alloc Hb.out.size _⟩
      by_cases hs : ∃ y ∈ l.take k, y.1 = f.1
      · obtain rfl : cc = 1 := by
          obtain ⟨y, hy, e⟩ := hs
          have h1 := Hin.out.1.2.1 y hy
          rw [e, Ha.out.1] at h1
          injection h1 with h1; injection h1
        go_wp2_with (go_at_call 150; refine (S1 _).mono ?_; rintro e w2 ⟨rfl, rfl⟩)
        go_ret
        exact ⟨by rw [okK_3 Hf.out hs]; rfl, (Hb.out).alloc Hb.out.size _⟩
      obtain rfl : cc = 0 := by
        have h1 := Hin.out.1.2.2 f.1 (fun y hy e => hs ⟨y, hy, e⟩)
        rw [Ha.out.1] at h1
        injection h1 with h1; injection h1
      have hkey : keyOf Tryz.prog 9 (.string f.1) = some (keyL f.1) := by simp [keyOf, Tryz.underlying9, mapKey, keyL]; exact hz _ (List.mem_of_getElem? Hf.out)
      have hMn : ¬ (some w.heap.size = some wr.heap.size) := by
        have := Ha.out.2.2.1.lt
        intro e; injection e; omega
      have y0 : (wr.alloc (.cells #[.string f.1, .int .i64 f.2] 115)).cell? ⟨wr.heap.size, 0, none⟩ = some (.string f.1) := (hs_start wr 115 0 (.string f.1) (.int .i64 f.2)).2.2.1
      have y1 : (wr.alloc (.cells #[.string f.1, .int .i64 f.2] 115)).cell? ⟨wr.heap.size, 1, none⟩ = some (.int .i64 f.2) := (hs_start wr 115 0 (.string f.1) (.int .i64 f.2)).2.2.2
      obtain ⟨w1, hrun1, hown1, hgrow1⟩ := Ha.out.2.2.2.update (t := 126) (Maps.string_keyed Tryz.underlying9) Tryz.underlying126 (by unfold maxLen; omega) hkey (val := .int .i64 1) (plainElem_int Tryz.underlying3 (by decide))
      have hO1 := Only.of_grown hgrow1
      have z0 : w1.cell? ⟨wr.heap.size, 0, none⟩ = some (.string f.1) := hO1.cell y0 hMn
      have z1 : w1.cell? ⟨wr.heap.size, 1, none⟩ = some (.int .i64 f.2) := hO1.cell y1 hMn
      have hBel : Below w.heap.size w w1 := ((Hb.out).alloc Hb.out.size _).grown hgrow1 (by have := Hb.out.size; simp; omega) (fun k hk => by cases hk; exact Nat.le_refl _)
      have hSp := seen_put Hin.out.1 f
      rw [← take_one Hf.out] at hSp
      have hAl : (l.take (k + 1)).all okK1 = true := take_all Hf.out Hin.out.2.1 (by unfold okK1; rw [H1.out]; simp; omega)
      have hNd : ((l.take (k + 1)).map Prod.fst).Nodup := by
        rw [take_one Hf.out, List.map_append, List.nodup_append]
        exact ⟨Hin.out.2.2.2, by simp, fun a ha b hb => by
          obtain ⟨y, hy, rfl⟩ := List.mem_map.1 ha
          simp at hb; subst hb
          exact fun e => hs ⟨y, hy, e⟩⟩
      have HO := Lib.hid (And.intro hown1 (And.intro hgrow1 (And.intro hO1 (And.intro hBel (And.intro hSp (And.intro hAl hNd))))))
      clear hown1 hgrow1 hO1 hBel hSp hAl hNd
      rcases Nat.eq_zero_or_pos k with h0 | hpos
      · have hdec : decide (0 < k) = false := by rw [h0]; rfl
        have H0 := Lib.hid h0
        clear h0
        go_wp2_with (go_at_call 150; refine (S1 _).mono ?_; rintro e w2 ⟨rfl, rfl⟩)
        go_quiet (fail)
        go_wp2_with fail
        obtain ⟨hown1, _, _, hBel, hSp, hAl, hNd⟩ := HO.out
        exact ⟨⟨k + 1, _, by omega, by go_num, hown1, hSp, ⟨hAl, fun i a b hi => by have := H0.out; omega, hNd⟩, below_drawn_ hBel _⟩, by simp [intOf]; omega⟩
      · obtain ⟨j, hj⟩ : ∃ j, j = k - 1 := ⟨_, rfl⟩
        obtain ⟨t, ht⟩ : ∃ t, l[j]? = some t := ⟨_, List.getElem?_eq_getElem (by omega)⟩
        obtain ⟨q, e, cq0, cq1⟩ := rdk_get hr ht
        injection e with e; subst e
        have hqM : ¬ (some w.heap.size = some (p.add (j * 2)).block) := fun e => by
          have := cell_lt (show w.cell? (p.add (j * 2)) = some (.string t.1) from cq0)
          injection e; omega
        obtain ⟨q2, e2, cr0, cr1⟩ := rdk_get (hr.below Hb.out) ht
        injection e2 with e2; subst e2
        have q0 : w1.cell? (p.add (j * 2)) = some (.string t.1) := HO.out.2.2.1.cell (((Only.refl (fun _ => False) wr).alloc _).cell cr0 id) hqM
        have q1 : w1.cell? ⟨(p.add (j * 2)).block, (p.add (j * 2)).off + 1, none⟩ = some (.int .i64 t.2) := HO.out.2.2.1.cell (((Only.refl (fun _ => False) wr).alloc _).cell cr1 id) hqM
        have hj2 : j < l.length := by omega
        have hw1 : IntKind.i64.wrap ((k : Int) - 1) = (j : Int) := by rw [Go.IntWalk.i64_in _ (by omega)]; omega
        have hp' : (0 : Int) < (k : Int) := by omega
        have Hj := Lib.hid hj
        have Ht := Lib.hid ht
        clear cq0 cq1 cr0 cr1 hj ht hqM
        have hbad : ahead t f = false → okK l = false := fun h => okK_2 Ht.out (by rw [Hj.out, Nat.sub_add_cancel hpos]; exact Hf.out) h
        have hgood : ahead t f = true → ∀ i a b, i + 1 < k + 1 → l[i]? = some a → l[i + 1]? = some b → ahead a b = true := fun hah i a b hi ha hb' => by
          by_cases h : i + 1 < k
          · exact Hin.out.2.2.1 i a b h ha hb'
          · obtain rfl : i = j := by have := Hj.out; omega
            rw [Ht.out] at ha; injection ha with ha; subst ha
            rw [show i + 1 = k by have := Hj.out; omega, Hf.out] at hb'; injection hb' with hb'; subst hb'
            exact hah
        have HB := Lib.hid (And.intro hbad hgood)
        clear hbad hgood
        rcases Int.lt_trichotomy t.2 f.2 with hlt3 | heq3 | hgt3
        · have hah : ahead t f = true := by unfold ahead; simp [hlt3]
          have n1 : ¬ f.2 < t.2 := by omega
          have n2 : ¬ t.2 = f.2 := by omega
          go_wp2_with (go_at_call 150; refine (S1 _).mono ?_; rintro e w2 ⟨rfl, rfl⟩)
          go_quiet (fail)
          go_wp2_with fail
          obtain ⟨hown1, _, _, hBel, hSp, hAl, hNd⟩ := HO.out
          exact ⟨⟨k + 1, _, by omega, by go_num, hown1, hSp, ⟨hAl, HB.out.2 hah, hNd⟩, below_drawn_ hBel _⟩, by simp [intOf]; omega⟩
        · have n1 : ¬ f.2 < t.2 := by omega
          cases hls : Op.bytesLess t.1.toList f.1.toList
          · have hah : ahead t f = false := by unfold ahead ltS; rw [hls]; simp; omega
            have HE := Lib.hid hah
            clear hah
            go_wp2_with (go_at_call 150; refine (S1 _).mono ?_; rintro e w2 ⟨rfl, rfl⟩)
            go_quiet (fail)
            go_wp2_with fail
            go_ret
            exact ⟨by rw [HB.out.1 HE.out]; rfl, below_drawn_ HO.out.2.2.2.1 _⟩
          · have hah : ahead t f = true := by unfold ahead ltS; rw [hls]; simp [heq3]
            have HE := Lib.hid hah
            clear hah
            go_wp2_with (go_at_call 150; refine (S1 _).mono ?_; rintro e w2 ⟨rfl, rfl⟩)
            go_quiet (fail)
            go_wp2_with fail
            obtain ⟨hown1, _, _, hBel, hSp, hAl, hNd⟩ := HO.out
            exact ⟨⟨k + 1, _, by omega, by go_num, hown1, hSp, ⟨hAl, HB.out.2 HE.out, hNd⟩, below_drawn_ hBel _⟩, by simp [intOf]; omega⟩
        · have hah : ahead t f = false := by unfold ahead; simp; omega
          have HE := Lib.hid hah
          clear hah
          go_wp2_with (go_at_call 150; refine (S1 _).mono ?_; rintro e w2 ⟨rfl, rfl⟩)
          go_quiet (fail)
          go_wp2_with fail
          go_ret
          exact ⟨by rw [HB.out.1 HE.out]; rfl, below_drawn_ HO.out.2.2.2.1 _⟩
    · obtain rfl : k = l.length := by omega
      obtain ⟨h1, h2, h3, h4⟩ := Hin.out
      rw [List.take_length] at h2 h4
      go_wp2_with fail
      go_ret
      refine ⟨?_, hb⟩
      have : okK l = true := by
        unfold okK
        rw [h2, (ris_iff _ l).2 (fun j a b ha hb => h3 j a b (by have := (List.getElem?_eq_some_iff.1 hb).1; omega) ha hb)]; simp [h4]
      rw [this]; rfl
end Go.Proofs.YtgmnnpbbiejbnaaGreat.VaG
