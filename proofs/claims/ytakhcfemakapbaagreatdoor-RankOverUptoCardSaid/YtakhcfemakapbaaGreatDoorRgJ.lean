/-
  ParseName of both. Conditions: as stated.
  ParseScore of both. Conditions: as stated.
-/
import Derived.Test.YtakhcfemakapbaaGreatDoorRgF
import Derived.Test.YtakhcfemakapbaaGreatDoorNumE
import Derived.Laws.ResultCell
import Derived.BigRegion
import Derived.Test.YtakhcfemakapbaaGreatDoorRgG
set_option maxRecDepth 100000
set_option linter.unusedSimpArgs false
set_option linter.unusedVariables false
namespace Go.Proofs.YtakhcfemakapbaaGreatDoor.RjF
open Go Go.RowKit Go.Shelf Go.Sort Go.Proofs.YtakhcfemakapbaaGreatDoor.Mem Go.Proofs.YtakhcfemakapbaaGreatDoor.DuA Go.Proofs.YtakhcfemakapbaaGreatDoor.DuM Go.Proofs.YtakhcfemakapbaaGreatDoor.DuN Go.Proofs.YtakhcfemakapbaaGreatDoor.RkA Go.Proofs.YtakhcfemakapbaaGreatDoor.RkC Go.Proofs.YtakhcfemakapbaaGreatDoor.RkB Go.Proofs.YtakhcfemakapbaaGreatDoor.RkE Go.Proofs.YtakhcfemakapbaaGreatDoor.RkI Go.Proofs.YtakhcfemakapbaaGreatDoor.RkS

def bz : Bd := ⟨0, false, 0, ⟨#[]⟩⟩
def byte0 (s : ByteArray) : Nat := if h : 0 < s.size then s[0].toNat else 0
def nameB (s : ByteArray) : Option Bd :=
  if s = ⟨#[45]⟩ then some ⟨-1, false, 0, ⟨#[]⟩⟩ else if s = ⟨#[43]⟩ then some ⟨1, false, 0, ⟨#[]⟩⟩ else
  if byte0 s = 91 then some ⟨0, false, 0, s.extract 1 s.size⟩ else if byte0 s = 40 then some ⟨0, true, 0, s.extract 1 s.size⟩ else none
def bdV (o : Option Bd) : Value := match o with
  | some b => .tuple #[bV b, .int .i64 0]
  | none => .tuple #[bV bz, .int .i64 121]
theorem set4 {w0 w : World} {g B : Nat} {t : TypeId} {a0 a1 a2 a3 : Value} (b0 b1 b2 b3 : Value) (h : w.heap[g]? = some (.cells #[a0, a1, a2, a3] t (0, 0))) (hb : Below B w0 w) (hB : B ≤ g) :
    ∃ w', w' = ((((w.setCell ⟨g, 0, none⟩ b0).setCell ⟨g, 1, none⟩ b1).setCell ⟨g, 2, none⟩ b2).setCell ⟨g, 3, none⟩ b3) ∧ Below B w0 w' ∧ w'.cell? ⟨g, 0, none⟩ = some b0 ∧ w'.cell? ⟨g, 1, none⟩ = some b1 ∧ w'.cell? ⟨g, 2, none⟩ = some b2 ∧ w'.cell? ⟨g, 3, none⟩ = some b3 := by
  refine ⟨_, rfl, (((hb.setCell (p := ⟨g, 0, none⟩) hB b0).setCell (p := ⟨g, 1, none⟩) hB b1).setCell (p := ⟨g, 2, none⟩) hB b2).setCell (p := ⟨g, 3, none⟩) hB b3, ?_⟩
  simp [World.cell?, World.setCell, Array.getElem?_modify, h]
theorem ne_lit {s : ByteArray} {l : List UInt8} (h : s ≠ ⟨l.toArray⟩) : (s.toList == l) = false := by
  rw [beq_eq_false_iff_ne, ByteArray.toList_eq]
  intro e
  apply h
  cases s
  subst e
  rfl
theorem ne_nil {s : ByteArray} (h : 0 < s.size) : (s.toList == []) = false := by
  rw [beq_eq_false_iff_ne, ByteArray.toList_eq]
  intro e
  have h2 : s.data.toList.length = s.size := by simp
  rw [e] at h2
  simp at h2
  omega
theorem is_nil {s : ByteArray} (h : ¬ 0 < s.size) : (s.toList == []) = true := by
  rw [beq_iff_eq, ByteArray.toList_eq]
  exact List.length_eq_zero_iff.1 (by have h2 : s.data.toList.length = s.size := by simp
                                      omega)
set_option maxHeartbeats 400000 in
theorem nameP_calls (s : ByteArray) (w : World) (hs : s.size ≤ 281474976710656) : Calls Tryz.prog 20 #[.string s] w fun e w' => e = .returned (bdV (nameB s)) ∧ Below w.heap.size w w' := by
  unfold nameB
  have hz := heap_alloc_new w (bo bz)
  have z0 : (w.alloc (bo bz)).frozen? ⟨w.heap.size, 0, none⟩ = false := by unfold World.frozen?; simp only [hz]; rfl
  have z1 : (w.alloc (bo bz)).frozen? ⟨w.heap.size, 1, none⟩ = false := by unfold World.frozen?; simp only [hz]; rfl
  have z2 : (w.alloc (bo bz)).frozen? ⟨w.heap.size, 2, none⟩ = false := by unfold World.frozen?; simp only [hz]; rfl
  have z3 : (w.alloc (bo bz)).frozen? ⟨w.heap.size, 3, none⟩ = false := by unfold World.frozen?; simp only [hz]; rfl
  unfold bz at z0 z1 z2 z3
  clear hz
  by_cases h1 : s = ⟨#[45]⟩
  · rw [if_pos h1]
    subst h1
    go_enter Tryz.func20, Tryz.ntmps20
    go_wp2_with fail
    (try simp only [Exit.inBlock, Exit.then])
    refine bodyPost_ret (v := .tuple #[.agg #[.int .i64 (-1), .bool false, .int .i64 0, .string ⟨#[]⟩], .int .i64 0]) ?_ rfl ⟨rfl, al w _⟩
    rw [results_cell_tmp rfl]
    go_simp
  rw [if_neg h1]
  have n1 := ne_lit (l := [45]) h1
  clear h1
  by_cases h2 : s = ⟨#[43]⟩
  · rw [if_pos h2]
    subst h2
    clear n1
    go_enter Tryz.func20, Tryz.ntmps20
    go_wp2_with fail
    (try simp only [Exit.inBlock, Exit.then])
    refine bodyPost_ret (v := .tuple #[.agg #[.int .i64 1, .bool false, .int .i64 0, .string ⟨#[]⟩], .int .i64 0]) ?_ rfl ⟨rfl, al w _⟩
    rw [results_cell_tmp rfl]
    go_simp
  rw [if_neg h2]
  have n2 := ne_lit (l := [43]) h2
  clear h2
  by_cases h3 : 0 < s.size
  · have hb : byte0 s = s[0].toNat := dif_pos h3
    obtain ⟨K, hK⟩ : ∃ K, K = byte0 s := ⟨_, rfl⟩
    rw [← hK]
    rw [← hK] at hb
    clear hK
    have n3 := ne_nil h3
    by_cases h4 : K = 91
    · rw [if_pos h4]
      have k4 : ((s[0].toNat : Int) == 91) = true := by rw [← hb, h4]; rfl
      have k5 : ((s[0].toNat : Int) == 40) = false := by rw [beq_eq_false_iff_ne]; omega
      clear h4 hb
      go_enter Tryz.func20, Tryz.ntmps20
      go_wp2_with fail
      (try simp only [Exit.inBlock, Exit.then])
      refine bodyPost_ret (v := .tuple #[.agg #[.int .i64 0, .bool false, .int .i64 0, .string (s.extract 1 s.size)], .int .i64 0]) ?_ rfl ⟨rfl, al w _⟩
      rw [results_cell_tmp rfl]
      go_simp
    · rw [if_neg h4]
      have k4 : ((s[0].toNat : Int) == 91) = false := by
        rw [beq_eq_false_iff_ne]; exact fun e => h4 (by omega)
      clear h4
      by_cases h5 : K = 40
      · rw [if_pos h5]
        have k5 : ((s[0].toNat : Int) == 40) = true := by rw [← hb, h5]; rfl
        clear h5 hb
        go_enter Tryz.func20, Tryz.ntmps20
        go_wp2_with fail
        (try simp only [Exit.inBlock, Exit.then])
        refine bodyPost_ret (v := .tuple #[.agg #[.int .i64 0, .bool true, .int .i64 0, .string (s.extract 1 s.size)], .int .i64 0]) ?_ rfl ⟨rfl, al w _⟩
        rw [results_cell_tmp rfl]
        go_simp
      · rw [if_neg h5]
        have k5 : ((s[0].toNat : Int) == 40) = false := by
          rw [beq_eq_false_iff_ne]; exact fun e => h5 (by omega)
        clear h5 hb
        go_enter Tryz.func20, Tryz.ntmps20
        go_wp2_with fail
        (try simp only [Exit.inBlock, Exit.then])
        refine bodyPost_ret (v := .tuple #[.agg #[.int .i64 0, .bool false, .int .i64 0, .string ⟨#[]⟩], .int .i64 121]) ?_ rfl ⟨rfl, al w _⟩
        rw [results_cell_tmp rfl]
        go_simp
  · have hb : byte0 s = 0 := dif_neg h3
    rw [hb, if_neg (by decide), if_neg (by decide)]
    clear hb
    have n3 := is_nil h3
    go_enter Tryz.func20, Tryz.ntmps20
    go_wp2_with fail
    (try simp only [Exit.inBlock, Exit.then])
    refine bodyPost_ret (v := .tuple #[.agg #[.int .i64 0, .bool false, .int .i64 0, .string ⟨#[]⟩], .int .i64 121]) ?_ rfl ⟨rfl, al w _⟩
    rw [results_cell_tmp rfl]
    go_simp
set_option maxHeartbeats 400000 in
theorem nameR_calls (s : ByteArray) (w : World) (hs : s.size ≤ 281474976710656) : Calls Tryz.prog 21 #[.string s] w fun e w' => e = .returned (bdV (nameB s)) ∧ Below w.heap.size w w' := by
  unfold nameB
  have hz := heap_alloc_new w (bo bz)
  have z0 : (w.alloc (bo bz)).frozen? ⟨w.heap.size, 0, none⟩ = false := by unfold World.frozen?; simp only [hz]; rfl
  have z1 : (w.alloc (bo bz)).frozen? ⟨w.heap.size, 1, none⟩ = false := by unfold World.frozen?; simp only [hz]; rfl
  have z2 : (w.alloc (bo bz)).frozen? ⟨w.heap.size, 2, none⟩ = false := by unfold World.frozen?; simp only [hz]; rfl
  have z3 : (w.alloc (bo bz)).frozen? ⟨w.heap.size, 3, none⟩ = false := by unfold World.frozen?; simp only [hz]; rfl
  unfold bz at z0 z1 z2 z3
  clear hz
  by_cases h1 : s = ⟨#[45]⟩
  · rw [if_pos h1]
    subst h1
    go_enter Tryz.func21, Tryz.ntmps21
    go_wp2_with fail
    (try simp only [Exit.inBlock, Exit.then])
    refine bodyPost_ret (v := .tuple #[.agg #[.int .i64 (-1), .bool false, .int .i64 0, .string ⟨#[]⟩], .int .i64 0]) ?_ rfl ⟨rfl, al w _⟩
    rw [results_cell_tmp rfl]
    go_simp
  rw [if_neg h1]
  have n1 := ne_lit (l := [45]) h1
  clear h1
  by_cases h2 : s = ⟨#[43]⟩
  · rw [if_pos h2]
    subst h2
    clear n1
    go_enter Tryz.func21, Tryz.ntmps21
    go_wp2_with fail
    (try simp only [Exit.inBlock, Exit.then])
    refine bodyPost_ret (v := .tuple #[.agg #[.int .i64 1, .bool false, .int .i64 0, .string ⟨#[]⟩], .int .i64 0]) ?_ rfl ⟨rfl, al w _⟩
    rw [results_cell_tmp rfl]
    go_simp
  rw [if_neg h2]
  have n2 := ne_lit (l := [43]) h2
  clear h2
  by_cases h3 : 0 < s.size
  · have hb : byte0 s = s[0].toNat := dif_pos h3
    obtain ⟨K, hK⟩ : ∃ K, K = byte0 s := ⟨_, rfl⟩
    rw [← hK]
    rw [← hK] at hb
    clear hK
    have n3 := ne_nil h3
    by_cases h4 : K = 91
    · rw [if_pos h4]
      have k4 : ((s[0].toNat : Int) == 91) = true := by rw [← hb, h4]; rfl
      have k5 : ((s[0].toNat : Int) == 40) = false := by rw [beq_eq_false_iff_ne]; omega
      clear h4 hb
      go_enter Tryz.func21, Tryz.ntmps21
      go_upto_region 6 with fail
      go_region
      go_wp2_with fail
      (try simp only [Exit.inBlock, Exit.then])
      refine bodyPost_ret (v := .tuple #[.agg #[.int .i64 0, .bool false, .int .i64 0, .string (s.extract 1 s.size)], .int .i64 0]) ?_ rfl ⟨rfl, (al w _).drew⟩
      rw [results_cell_tmp rfl]
      go_simp
    · rw [if_neg h4]
      have k4 : ((s[0].toNat : Int) == 91) = false := by
        rw [beq_eq_false_iff_ne]; exact fun e => h4 (by omega)
      clear h4
      by_cases h5 : K = 40
      · rw [if_pos h5]
        have k5 : ((s[0].toNat : Int) == 40) = true := by rw [← hb, h5]; rfl
        clear h5 hb
        go_enter Tryz.func21, Tryz.ntmps21
        go_upto_region 6 with fail
        go_region
        go_wp2_with fail
        (try simp only [Exit.inBlock, Exit.then])
        refine bodyPost_ret (v := .tuple #[.agg #[.int .i64 0, .bool true, .int .i64 0, .string (s.extract 1 s.size)], .int .i64 0]) ?_ rfl ⟨rfl, (al w _).drew⟩
        rw [results_cell_tmp rfl]
        go_simp
      · rw [if_neg h5]
        have k5 : ((s[0].toNat : Int) == 40) = false := by
          rw [beq_eq_false_iff_ne]; exact fun e => h5 (by omega)
        clear h5 hb
        go_enter Tryz.func21, Tryz.ntmps21
        go_wp2_with fail
        (try simp only [Exit.inBlock, Exit.then])
        refine bodyPost_ret (v := .tuple #[.agg #[.int .i64 0, .bool false, .int .i64 0, .string ⟨#[]⟩], .int .i64 121]) ?_ rfl ⟨rfl, al w _⟩
        rw [results_cell_tmp rfl]
        go_simp
  · have hb : byte0 s = 0 := dif_neg h3
    rw [hb, if_neg (by decide), if_neg (by decide)]
    clear hb
    have n3 := is_nil h3
    go_enter Tryz.func21, Tryz.ntmps21
    go_wp2_with fail
    (try simp only [Exit.inBlock, Exit.then])
    refine bodyPost_ret (v := .tuple #[.agg #[.int .i64 0, .bool false, .int .i64 0, .string ⟨#[]⟩], .int .i64 121]) ?_ rfl ⟨rfl, al w _⟩
    rw [results_cell_tmp rfl]
    go_simp
end Go.Proofs.YtakhcfemakapbaaGreatDoor.RjF
set_option maxRecDepth 100000
set_option linter.unusedSimpArgs false
set_option linter.unusedVariables false
namespace Go.Proofs.YtakhcfemakapbaaGreatDoor.RjG
open Go Go.RowKit Go.Shelf Go.Sort Go.Proofs.YtakhcfemakapbaaGreatDoor.Mem Go.Proofs.YtakhcfemakapbaaGreatDoor.DuA Go.Proofs.YtakhcfemakapbaaGreatDoor.DuM Go.Proofs.YtakhcfemakapbaaGreatDoor.DuN Go.Proofs.YtakhcfemakapbaaGreatDoor.NumA Go.Proofs.YtakhcfemakapbaaGreatDoor.NumB Go.Proofs.YtakhcfemakapbaaGreatDoor.NumC Go.Proofs.YtakhcfemakapbaaGreatDoor.NumD Go.Proofs.YtakhcfemakapbaaGreatDoor.NumE Go.Proofs.YtakhcfemakapbaaGreatDoor.RkA Go.Proofs.YtakhcfemakapbaaGreatDoor.RkC Go.Proofs.YtakhcfemakapbaaGreatDoor.RkB Go.Proofs.YtakhcfemakapbaaGreatDoor.RkE Go.Proofs.YtakhcfemakapbaaGreatDoor.RkI Go.Proofs.YtakhcfemakapbaaGreatDoor.RkS Go.Proofs.YtakhcfemakapbaaGreatDoor.RkV Go.Proofs.YtakhcfemakapbaaGreatDoor.RjF

def restB (s : ByteArray) : ByteArray := if byte0 s = 40 then s.extract 1 s.size else s
def numD (s : ByteArray) : Option Int := parseD (restB s).data.toList
def scoreB (s : ByteArray) : Option Bd :=
  if s = ⟨#[45, 105, 110, 102]⟩ then some ⟨-1, false, 0, ⟨#[]⟩⟩ else if s = ⟨#[43, 105, 110, 102]⟩ then some ⟨1, false, 0, ⟨#[]⟩⟩ else if s = ⟨#[105, 110, 102]⟩ then some ⟨1, false, 0, ⟨#[]⟩⟩ else
  match numD s with
  | some n => if okS n then some ⟨0, decide (byte0 s = 40), n, ⟨#[]⟩⟩ else none
  | none => none
theorem put_other (w : World) (g : Nat) (v : Value) : (w.setCell ⟨g + 1, 2, none⟩ v).heap[g]? = w.heap[g]? := by
  simp [World.setCell, Array.getElem?_modify]
theorem two_boxes (w : World) (a b : Bd) : ((w.alloc (bo a)).alloc (bo b)).heap[w.heap.size]? = some (bo a) ∧ ((w.alloc (bo a)).alloc (bo b)).heap[w.heap.size + 1]? = some (bo b) := by
  refine ⟨?_, ?_⟩
  · rw [RowKit.Below.heap_alloc _ _ _ (by simp)]; exact heap_alloc_new w _
  · have := heap_alloc_new (w.alloc (bo a)) (bo b)
    rwa [World.size_alloc] at this
theorem frz4 {w : World} {g : Nat} {b : Bd} (h : w.heap[g]? = some (bo b)) (k : Nat) : w.frozen? ⟨g, k, none⟩ = false := by unfold World.frozen?; simp only [h]; simp
theorem cell4 {w : World} {g : Nat} {b : Bd} (h : w.heap[g]? = some (bo b)) : w.cell? ⟨g, 0, none⟩ = some (.int .i64 b.inf) ∧ w.cell? ⟨g, 1, none⟩ = some (.bool b.opn) ∧ w.cell? ⟨g, 2, none⟩ = some (.int .i64 b.score) ∧ w.cell? ⟨g, 3, none⟩ = some (.string b.name) := by
  refine ⟨?_, ?_, ?_, ?_⟩ <;> (unfold World.cell?; simp only [h]; rfl)
set_option maxHeartbeats 400000 in
theorem scoreP_calls (s : ByteArray) (w : World) (hL : Laid w) (hs : s.size ≤ 281474976710656) : Calls Tryz.prog 18 #[.string s] w fun e w' => e = .returned (bdV (scoreB s)) ∧ Below w.heap.size w w' := by
  have hz := heap_alloc_new w (bo bz)
  have z0 : (w.alloc (bo bz)).frozen? ⟨w.heap.size, 0, none⟩ = false := by unfold World.frozen?; simp only [hz]; rfl
  have z1 : (w.alloc (bo bz)).frozen? ⟨w.heap.size, 1, none⟩ = false := by unfold World.frozen?; simp only [hz]; rfl
  have z2 : (w.alloc (bo bz)).frozen? ⟨w.heap.size, 2, none⟩ = false := by unfold World.frozen?; simp only [hz]; rfl
  have z3 : (w.alloc (bo bz)).frozen? ⟨w.heap.size, 3, none⟩ = false := by unfold World.frozen?; simp only [hz]; rfl
  unfold bz at z0 z1 z2 z3
  clear hz
  unfold scoreB
  by_cases h1 : s = ⟨#[45, 105, 110, 102]⟩
  · rw [if_pos h1]
    subst h1
    go_enter Tryz.func18, Tryz.ntmps18
    go_wp2_with fail
    (try simp only [Exit.inBlock, Exit.then])
    refine bodyPost_ret (v := .tuple #[.agg #[.int .i64 (-1), .bool false, .int .i64 0, .string ⟨#[]⟩], .int .i64 0]) ?_ rfl ⟨rfl, al w _⟩
    rw [results_cell_tmp rfl]
    go_simp
  rw [if_neg h1]
  have n1 := ne_lit (l := [45, 105, 110, 102]) h1
  clear h1
  by_cases h2 : s = ⟨#[43, 105, 110, 102]⟩
  · rw [if_pos h2]
    subst h2
    clear n1
    go_enter Tryz.func18, Tryz.ntmps18
    go_wp2_with fail
    (try simp only [Exit.inBlock, Exit.then])
    refine bodyPost_ret (v := .tuple #[.agg #[.int .i64 1, .bool false, .int .i64 0, .string ⟨#[]⟩], .int .i64 0]) ?_ rfl ⟨rfl, al w _⟩
    rw [results_cell_tmp rfl]
    go_simp
  rw [if_neg h2]
  have n2 := ne_lit (l := [43, 105, 110, 102]) h2
  clear h2
  by_cases h2 : s = ⟨#[105, 110, 102]⟩
  · rw [if_pos h2]
    subst h2
    clear n1 n2
    go_enter Tryz.func18, Tryz.ntmps18
    go_wp2_with fail
    (try simp only [Exit.inBlock, Exit.then])
    refine bodyPost_ret (v := .tuple #[.agg #[.int .i64 1, .bool false, .int .i64 0, .string ⟨#[]⟩], .int .i64 0]) ?_ rfl ⟨rfl, al w _⟩
    rw [results_cell_tmp rfl]
    go_simp
  rw [if_neg h2]
  have n4 := ne_lit (l := [105, 110, 102]) h2
  clear h2
  obtain ⟨O, hO⟩ : ∃ O, O = decide (byte0 s = 40) := ⟨_, rfl⟩
  rw [← hO]
  obtain ⟨R, hR⟩ : ∃ R, R = restB s := ⟨_, rfl⟩
  have hRs : R.size ≤ 281474976710656 := by
    rw [hR]; unfold restB; split
    · rw [ByteArray.size_extract]; omega
    · exact hs
  obtain ⟨W2, hW2⟩ : ∃ W2, W2 = (w.alloc (.cells #[.int .i64 0, .bool false, .int .i64 0, .string ⟨#[]⟩] 39)).alloc (.cells #[.int .i64 0, .bool O, .int .i64 0, .string ⟨#[]⟩] 39) := ⟨_, rfl⟩
  obtain ⟨k1, k2⟩ := two_boxes w bz ⟨0, O, 0, ⟨#[]⟩⟩
  have b2 : Below w.heap.size w W2 := by rw [hW2]; exact (al w _).trans ((al _ _).mono (al w _).size)
  change (World.alloc (w.alloc (.cells #[.int .i64 0, .bool false, .int .i64 0, .string ⟨#[]⟩] 39)) (.cells #[.int .i64 0, .bool O, .int .i64 0, .string ⟨#[]⟩] 39)).heap[w.heap.size]? = _ at k1
  change (World.alloc (w.alloc (.cells #[.int .i64 0, .bool false, .int .i64 0, .string ⟨#[]⟩] 39)) (.cells #[.int .i64 0, .bool O, .int .i64 0, .string ⟨#[]⟩] 39)).heap[w.heap.size + 1]? = _ at k2
  rw [← hW2] at k1 k2
  have hpc := parse_calls R W2 (hL.below b2) hRs
  unfold numD
  rw [← hR]
  have hmay : Hid (∀ n W, Calls Tryz.prog 30 #[.int .i64 n] W fun e w' => e = .returned (.bool (decide (okS n))) ∧ w' = W) := Lib.hid (fun n W => mayP_calls n W)
  have HR := Lib.hid hR
  have HB := Lib.hid b2
  have HK := Lib.hid (And.intro k1 k2)
  obtain ⟨D, hD⟩ : ∃ D, D = parseD R.data.toList := ⟨_, rfl⟩
  rw [← hD] at hpc ⊢
  clear hR b2 k1 k2 hD z0 z1 z2 z3 hRs hL
  rcases D with _ | n
  · unfold parseV at hpc
    simp only at hpc ⊢
    by_cases h3 : 0 < s.size
    · have hb : byte0 s = s[0].toNat := dif_pos h3
      have n3 := ne_nil h3
      by_cases h4 : byte0 s = 40
      · have k5 : ((s[0].toNat : Int) == 40) = true := by rw [← hb, h4]; rfl
        have hR2 : R = s.extract 1 s.size := by rw [HR.out]; unfold restB; rw [if_pos h4]
        rw [decide_eq_true h4] at hO
        subst hO hR2
        clear h4 hb
        go_enter Tryz.func18, Tryz.ntmps18
        go_wp2_with fail
        rw [← hW2]
        refine hpc.mono ?_
        clear hpc hW2
        rintro e w3 ⟨rfl, b3⟩
        have b23 := HB.out.trans (b3.mono HB.out.size)
        have y1 := (b3.block _ (Array.getElem?_eq_some_iff.1 HK.out.1).1).trans HK.out.1
        have y2 := (b3.block _ (Array.getElem?_eq_some_iff.1 HK.out.2).1).trans HK.out.2
        have z0 := frz4 y1 0
        have z1 := frz4 y1 1
        have z2 := frz4 y1 2
        have z3 := frz4 y1 3
        have v0 := frz4 y2 2
        obtain ⟨c0, c1, c2, c3⟩ := cell4 y2
        simp only at c0 c1 c2 c3
        obtain ⟨d0, d1, d2, d3⟩ := cell4 y1
        simp only [bz] at d0 d1 d2 d3
        have h4 := Lib.hid (set4 (.int .i64 0) (.bool false) (.int .i64 0) (.string ⟨#[]⟩) y1 b23 (Nat.le_refl _))
        clear y1 y2 b3 b23
        go_wp2_with (go_at_call 30; refine (hmay.out _ _).mono ?_; rintro e w4 ⟨rfl, hw4⟩; subst w4)
        obtain ⟨W7, hW7, hb7, g0, g1, g2, g3⟩ := h4.out
        clear h4
        rw [← hW7]
        clear hW7
        (try simp only [Exit.inBlock, Exit.then])
        refine bodyPost_ret (v := .tuple #[.agg #[.int .i64 0, .bool false, .int .i64 0, .string ⟨#[]⟩], .int .i64 121]) ?_ rfl ⟨rfl, hb7⟩
        rw [results_cell_tmp rfl]
        go_simp
      · have k5 : ((s[0].toNat : Int) == 40) = false := by rw [beq_eq_false_iff_ne]; omega
        have hR2 : R = s := by rw [HR.out]; unfold restB; rw [if_neg h4]
        rw [decide_eq_false h4] at hO
        subst hO hR2
        clear h4 hb
        go_enter Tryz.func18, Tryz.ntmps18
        go_wp2_with fail
        rw [← hW2]
        refine hpc.mono ?_
        clear hpc hW2
        rintro e w3 ⟨rfl, b3⟩
        have b23 := HB.out.trans (b3.mono HB.out.size)
        have y1 := (b3.block _ (Array.getElem?_eq_some_iff.1 HK.out.1).1).trans HK.out.1
        have y2 := (b3.block _ (Array.getElem?_eq_some_iff.1 HK.out.2).1).trans HK.out.2
        have z0 := frz4 y1 0
        have z1 := frz4 y1 1
        have z2 := frz4 y1 2
        have z3 := frz4 y1 3
        have v0 := frz4 y2 2
        obtain ⟨c0, c1, c2, c3⟩ := cell4 y2
        simp only at c0 c1 c2 c3
        obtain ⟨d0, d1, d2, d3⟩ := cell4 y1
        simp only [bz] at d0 d1 d2 d3
        have h4 := Lib.hid (set4 (.int .i64 0) (.bool false) (.int .i64 0) (.string ⟨#[]⟩) y1 b23 (Nat.le_refl _))
        clear y1 y2 b3 b23
        go_wp2_with (go_at_call 30; refine (hmay.out _ _).mono ?_; rintro e w4 ⟨rfl, hw4⟩; subst w4)
        obtain ⟨W7, hW7, hb7, g0, g1, g2, g3⟩ := h4.out
        clear h4
        rw [← hW7]
        clear hW7
        (try simp only [Exit.inBlock, Exit.then])
        refine bodyPost_ret (v := .tuple #[.agg #[.int .i64 0, .bool false, .int .i64 0, .string ⟨#[]⟩], .int .i64 121]) ?_ rfl ⟨rfl, hb7⟩
        rw [results_cell_tmp rfl]
        go_simp
    · have hb : byte0 s = 0 := dif_neg h3
      have n3 := is_nil h3
      have h4 : ¬ byte0 s = 40 := by omega
      have hR2 : R = s := by rw [HR.out]; unfold restB; rw [if_neg h4]
      rw [decide_eq_false h4] at hO
      subst hO hR2
      clear h4 hb
      go_enter Tryz.func18, Tryz.ntmps18
      go_wp2_with fail
      rw [← hW2]
      refine hpc.mono ?_
      clear hpc hW2
      rintro e w3 ⟨rfl, b3⟩
      have b23 := HB.out.trans (b3.mono HB.out.size)
      have y1 := (b3.block _ (Array.getElem?_eq_some_iff.1 HK.out.1).1).trans HK.out.1
      have y2 := (b3.block _ (Array.getElem?_eq_some_iff.1 HK.out.2).1).trans HK.out.2
      have z0 := frz4 y1 0
      have z1 := frz4 y1 1
      have z2 := frz4 y1 2
      have z3 := frz4 y1 3
      have v0 := frz4 y2 2
      obtain ⟨c0, c1, c2, c3⟩ := cell4 y2
      simp only at c0 c1 c2 c3
      obtain ⟨d0, d1, d2, d3⟩ := cell4 y1
      simp only [bz] at d0 d1 d2 d3
      have h4 := Lib.hid (set4 (.int .i64 0) (.bool false) (.int .i64 0) (.string ⟨#[]⟩) y1 b23 (Nat.le_refl _))
      clear y1 y2 b3 b23
      go_wp2_with (go_at_call 30; refine (hmay.out _ _).mono ?_; rintro e w4 ⟨rfl, hw4⟩; subst w4)
      obtain ⟨W7, hW7, hb7, g0, g1, g2, g3⟩ := h4.out
      clear h4
      rw [← hW7]
      clear hW7
      (try simp only [Exit.inBlock, Exit.then])
      refine bodyPost_ret (v := .tuple #[.agg #[.int .i64 0, .bool false, .int .i64 0, .string ⟨#[]⟩], .int .i64 121]) ?_ rfl ⟨rfl, hb7⟩
      rw [results_cell_tmp rfl]
      go_simp
  · unfold parseV at hpc
    simp only at hpc ⊢
    by_cases hok : okS n
    · rw [if_pos hok]
      have hmy : decide (okS n) = true := decide_eq_true hok
      clear hok
      by_cases h3 : 0 < s.size
      · have hb : byte0 s = s[0].toNat := dif_pos h3
        have n3 := ne_nil h3
        by_cases h4 : byte0 s = 40
        · have k5 : ((s[0].toNat : Int) == 40) = true := by rw [← hb, h4]; rfl
          have hR2 : R = s.extract 1 s.size := by rw [HR.out]; unfold restB; rw [if_pos h4]
          rw [decide_eq_true h4] at hO
          subst hO hR2
          clear h4 hb
          go_enter Tryz.func18, Tryz.ntmps18
          go_wp2_with fail
          rw [← hW2]
          refine hpc.mono ?_
          clear hpc hW2
          rintro e w3 ⟨rfl, b3⟩
          have b23 := HB.out.trans (b3.mono HB.out.size)
          have y1 := (b3.block _ (Array.getElem?_eq_some_iff.1 HK.out.1).1).trans HK.out.1
          have y2 := (b3.block _ (Array.getElem?_eq_some_iff.1 HK.out.2).1).trans HK.out.2
          have z0 := frz4 y1 0
          have z1 := frz4 y1 1
          have z2 := frz4 y1 2
          have z3 := frz4 y1 3
          have v0 := frz4 y2 2
          obtain ⟨c0, c1, c2, c3⟩ := cell4 y2
          simp only at c0 c1 c2 c3
          obtain ⟨d0, d1, d2, d3⟩ := cell4 y1
          simp only [bz] at d0 d1 d2 d3
          have h4 := Lib.hid (set4 (.int .i64 0) (.bool true) (.int .i64 n) (.string ⟨#[]⟩) ((put_other w3 w.heap.size (.int .i64 n)).trans y1) (b23.setCell (p := ⟨w.heap.size + 1, 2, none⟩) (Nat.le_succ _) (.int .i64 n)) (Nat.le_refl _))
          clear b3 b23 y1 y2
          go_wp2_with (go_at_call 30; refine (hmay.out _ _).mono ?_; rintro e w4 ⟨rfl, hw4⟩; subst w4)
          obtain ⟨W7, hW7, hb7, g0, g1, g2, g3⟩ := h4.out
          clear h4
          rw [← hW7]
          clear hW7
          (try simp only [Exit.inBlock, Exit.then])
          refine bodyPost_ret (v := .tuple #[.agg #[.int .i64 0, .bool true, .int .i64 n, .string ⟨#[]⟩], .int .i64 0]) ?_ rfl ⟨rfl, hb7⟩
          rw [results_cell_tmp rfl]
          go_simp
        · have k5 : ((s[0].toNat : Int) == 40) = false := by rw [beq_eq_false_iff_ne]; omega
          have hR2 : R = s := by rw [HR.out]; unfold restB; rw [if_neg h4]
          rw [decide_eq_false h4] at hO
          subst hO hR2
          clear h4 hb
          go_enter Tryz.func18, Tryz.ntmps18
          go_wp2_with fail
          rw [← hW2]
          refine hpc.mono ?_
          clear hpc hW2
          rintro e w3 ⟨rfl, b3⟩
          have b23 := HB.out.trans (b3.mono HB.out.size)
          have y1 := (b3.block _ (Array.getElem?_eq_some_iff.1 HK.out.1).1).trans HK.out.1
          have y2 := (b3.block _ (Array.getElem?_eq_some_iff.1 HK.out.2).1).trans HK.out.2
          have z0 := frz4 y1 0
          have z1 := frz4 y1 1
          have z2 := frz4 y1 2
          have z3 := frz4 y1 3
          have v0 := frz4 y2 2
          obtain ⟨c0, c1, c2, c3⟩ := cell4 y2
          simp only at c0 c1 c2 c3
          obtain ⟨d0, d1, d2, d3⟩ := cell4 y1
          simp only [bz] at d0 d1 d2 d3
          have h4 := Lib.hid (set4 (.int .i64 0) (.bool false) (.int .i64 n) (.string ⟨#[]⟩) ((put_other w3 w.heap.size (.int .i64 n)).trans y1) (b23.setCell (p := ⟨w.heap.size + 1, 2, none⟩) (Nat.le_succ _) (.int .i64 n)) (Nat.le_refl _))
          clear b3 b23 y1 y2
          go_wp2_with (go_at_call 30; refine (hmay.out _ _).mono ?_; rintro e w4 ⟨rfl, hw4⟩; subst w4)
          obtain ⟨W7, hW7, hb7, g0, g1, g2, g3⟩ := h4.out
          clear h4
          rw [← hW7]
          clear hW7
          (try simp only [Exit.inBlock, Exit.then])
          refine bodyPost_ret (v := .tuple #[.agg #[.int .i64 0, .bool false, .int .i64 n, .string ⟨#[]⟩], .int .i64 0]) ?_ rfl ⟨rfl, hb7⟩
          rw [results_cell_tmp rfl]
          go_simp
      · have hb : byte0 s = 0 := dif_neg h3
        have n3 := is_nil h3
        have h4 : ¬ byte0 s = 40 := by omega
        have hR2 : R = s := by rw [HR.out]; unfold restB; rw [if_neg h4]
        rw [decide_eq_false h4] at hO
        subst hO hR2
        clear h4 hb
        go_enter Tryz.func18, Tryz.ntmps18
        go_wp2_with fail
        rw [← hW2]
        refine hpc.mono ?_
        clear hpc hW2
        rintro e w3 ⟨rfl, b3⟩
        have b23 := HB.out.trans (b3.mono HB.out.size)
        have y1 := (b3.block _ (Array.getElem?_eq_some_iff.1 HK.out.1).1).trans HK.out.1
        have y2 := (b3.block _ (Array.getElem?_eq_some_iff.1 HK.out.2).1).trans HK.out.2
        have z0 := frz4 y1 0
        have z1 := frz4 y1 1
        have z2 := frz4 y1 2
        have z3 := frz4 y1 3
        have v0 := frz4 y2 2
        obtain ⟨c0, c1, c2, c3⟩ := cell4 y2
        simp only at c0 c1 c2 c3
        obtain ⟨d0, d1, d2, d3⟩ := cell4 y1
        simp only [bz] at d0 d1 d2 d3
        have h4 := Lib.hid (set4 (.int .i64 0) (.bool false) (.int .i64 n) (.string ⟨#[]⟩) ((put_other w3 w.heap.size (.int .i64 n)).trans y1) (b23.setCell (p := ⟨w.heap.size + 1, 2, none⟩) (Nat.le_succ _) (.int .i64 n)) (Nat.le_refl _))
        clear b3 b23 y1 y2
        go_wp2_with (go_at_call 30; refine (hmay.out _ _).mono ?_; rintro e w4 ⟨rfl, hw4⟩; subst w4)
        obtain ⟨W7, hW7, hb7, g0, g1, g2, g3⟩ := h4.out
        clear h4
        rw [← hW7]
        clear hW7
        (try simp only [Exit.inBlock, Exit.then])
        refine bodyPost_ret (v := .tuple #[.agg #[.int .i64 0, .bool false, .int .i64 n, .string ⟨#[]⟩], .int .i64 0]) ?_ rfl ⟨rfl, hb7⟩
        rw [results_cell_tmp rfl]
        go_simp
    · rw [if_neg hok]
      have hmy : decide (okS n) = false := decide_eq_false hok
      clear hok
      by_cases h3 : 0 < s.size
      · have hb : byte0 s = s[0].toNat := dif_pos h3
        have n3 := ne_nil h3
        by_cases h4 : byte0 s = 40
        · have k5 : ((s[0].toNat : Int) == 40) = true := by rw [← hb, h4]; rfl
          have hR2 : R = s.extract 1 s.size := by rw [HR.out]; unfold restB; rw [if_pos h4]
          rw [decide_eq_true h4] at hO
          subst hO hR2
          clear h4 hb
          go_enter Tryz.func18, Tryz.ntmps18
          go_wp2_with fail
          rw [← hW2]
          refine hpc.mono ?_
          clear hpc hW2
          rintro e w3 ⟨rfl, b3⟩
          have b23 := HB.out.trans (b3.mono HB.out.size)
          have y1 := (b3.block _ (Array.getElem?_eq_some_iff.1 HK.out.1).1).trans HK.out.1
          have y2 := (b3.block _ (Array.getElem?_eq_some_iff.1 HK.out.2).1).trans HK.out.2
          have z0 := frz4 y1 0
          have z1 := frz4 y1 1
          have z2 := frz4 y1 2
          have z3 := frz4 y1 3
          have v0 := frz4 y2 2
          obtain ⟨c0, c1, c2, c3⟩ := cell4 y2
          simp only at c0 c1 c2 c3
          obtain ⟨d0, d1, d2, d3⟩ := cell4 y1
          simp only [bz] at d0 d1 d2 d3
          have h4 := Lib.hid (set4 (.int .i64 0) (.bool false) (.int .i64 0) (.string ⟨#[]⟩) y1 b23 (Nat.le_refl _))
          clear y1 y2 b3 b23
          go_wp2_with (go_at_call 30; refine (hmay.out _ _).mono ?_; rintro e w4 ⟨rfl, hw4⟩; subst w4)
          obtain ⟨W7, hW7, hb7, g0, g1, g2, g3⟩ := h4.out
          clear h4
          rw [← hW7]
          clear hW7
          (try simp only [Exit.inBlock, Exit.then])
          refine bodyPost_ret (v := .tuple #[.agg #[.int .i64 0, .bool false, .int .i64 0, .string ⟨#[]⟩], .int .i64 121]) ?_ rfl ⟨rfl, hb7⟩
          rw [results_cell_tmp rfl]
          go_simp
        · have k5 : ((s[0].toNat : Int) == 40) = false := by rw [beq_eq_false_iff_ne]; omega
          have hR2 : R = s := by rw [HR.out]; unfold restB; rw [if_neg h4]
          rw [decide_eq_false h4] at hO
          subst hO hR2
          clear h4 hb
          go_enter Tryz.func18, Tryz.ntmps18
          go_wp2_with fail
          rw [← hW2]
          refine hpc.mono ?_
          clear hpc hW2
          rintro e w3 ⟨rfl, b3⟩
          have b23 := HB.out.trans (b3.mono HB.out.size)
          have y1 := (b3.block _ (Array.getElem?_eq_some_iff.1 HK.out.1).1).trans HK.out.1
          have y2 := (b3.block _ (Array.getElem?_eq_some_iff.1 HK.out.2).1).trans HK.out.2
          have z0 := frz4 y1 0
          have z1 := frz4 y1 1
          have z2 := frz4 y1 2
          have z3 := frz4 y1 3
          have v0 := frz4 y2 2
          obtain ⟨c0, c1, c2, c3⟩ := cell4 y2
          simp only at c0 c1 c2 c3
          obtain ⟨d0, d1, d2, d3⟩ := cell4 y1
          simp only [bz] at d0 d1 d2 d3
          have h4 := Lib.hid (set4 (.int .i64 0) (.bool false) (.int .i64 0) (.string ⟨#[]⟩) y1 b23 (Nat.le_refl _))
          clear y1 y2 b3 b23
          go_wp2_with (go_at_call 30; refine (hmay.out _ _).mono ?_; rintro e w4 ⟨rfl, hw4⟩; subst w4)
          obtain ⟨W7, hW7, hb7, g0, g1, g2, g3⟩ := h4.out
          clear h4
          rw [← hW7]
          clear hW7
          (try simp only [Exit.inBlock, Exit.then])
          refine bodyPost_ret (v := .tuple #[.agg #[.int .i64 0, .bool false, .int .i64 0, .string ⟨#[]⟩], .int .i64 121]) ?_ rfl ⟨rfl, hb7⟩
          rw [results_cell_tmp rfl]
          go_simp
      · have hb : byte0 s = 0 := dif_neg h3
        have n3 := is_nil h3
        have h4 : ¬ byte0 s = 40 := by omega
        have hR2 : R = s := by rw [HR.out]; unfold restB; rw [if_neg h4]
        rw [decide_eq_false h4] at hO
        subst hO hR2
        clear h4 hb
        go_enter Tryz.func18, Tryz.ntmps18
        go_wp2_with fail
        rw [← hW2]
        refine hpc.mono ?_
        clear hpc hW2
        rintro e w3 ⟨rfl, b3⟩
        have b23 := HB.out.trans (b3.mono HB.out.size)
        have y1 := (b3.block _ (Array.getElem?_eq_some_iff.1 HK.out.1).1).trans HK.out.1
        have y2 := (b3.block _ (Array.getElem?_eq_some_iff.1 HK.out.2).1).trans HK.out.2
        have z0 := frz4 y1 0
        have z1 := frz4 y1 1
        have z2 := frz4 y1 2
        have z3 := frz4 y1 3
        have v0 := frz4 y2 2
        obtain ⟨c0, c1, c2, c3⟩ := cell4 y2
        simp only at c0 c1 c2 c3
        obtain ⟨d0, d1, d2, d3⟩ := cell4 y1
        simp only [bz] at d0 d1 d2 d3
        have h4 := Lib.hid (set4 (.int .i64 0) (.bool false) (.int .i64 0) (.string ⟨#[]⟩) y1 b23 (Nat.le_refl _))
        clear y1 y2 b3 b23
        go_wp2_with (go_at_call 30; refine (hmay.out _ _).mono ?_; rintro e w4 ⟨rfl, hw4⟩; subst w4)
        obtain ⟨W7, hW7, hb7, g0, g1, g2, g3⟩ := h4.out
        clear h4
        rw [← hW7]
        clear hW7
        (try simp only [Exit.inBlock, Exit.then])
        refine bodyPost_ret (v := .tuple #[.agg #[.int .i64 0, .bool false, .int .i64 0, .string ⟨#[]⟩], .int .i64 121]) ?_ rfl ⟨rfl, hb7⟩
        rw [results_cell_tmp rfl]
        go_simp
set_option maxHeartbeats 400000 in
theorem scoreR_calls (s : ByteArray) (w : World) (hs : s.size ≤ 281474976710656) : Calls Tryz.prog 19 #[.string s] w fun e w' => e = .returned (bdV (scoreB s)) ∧ Below w.heap.size w w' := by
  have hz := heap_alloc_new w (bo bz)
  have z0 : (w.alloc (bo bz)).frozen? ⟨w.heap.size, 0, none⟩ = false := by unfold World.frozen?; simp only [hz]; rfl
  have z1 : (w.alloc (bo bz)).frozen? ⟨w.heap.size, 1, none⟩ = false := by unfold World.frozen?; simp only [hz]; rfl
  have z2 : (w.alloc (bo bz)).frozen? ⟨w.heap.size, 2, none⟩ = false := by unfold World.frozen?; simp only [hz]; rfl
  have z3 : (w.alloc (bo bz)).frozen? ⟨w.heap.size, 3, none⟩ = false := by unfold World.frozen?; simp only [hz]; rfl
  unfold bz at z0 z1 z2 z3
  clear hz
  unfold scoreB
  by_cases h1 : s = ⟨#[45, 105, 110, 102]⟩
  · rw [if_pos h1]
    subst h1
    go_enter Tryz.func19, Tryz.ntmps19
    go_wp2_with fail
    (try simp only [Exit.inBlock, Exit.then])
    refine bodyPost_ret (v := .tuple #[.agg #[.int .i64 (-1), .bool false, .int .i64 0, .string ⟨#[]⟩], .int .i64 0]) ?_ rfl ⟨rfl, al w _⟩
    rw [results_cell_tmp rfl]
    go_simp
  rw [if_neg h1]
  have n1 := ne_lit (l := [45, 105, 110, 102]) h1
  clear h1
  by_cases h2 : s = ⟨#[43, 105, 110, 102]⟩
  · rw [if_pos h2]
    subst h2
    clear n1
    go_enter Tryz.func19, Tryz.ntmps19
    go_wp2_with fail
    (try simp only [Exit.inBlock, Exit.then])
    refine bodyPost_ret (v := .tuple #[.agg #[.int .i64 1, .bool false, .int .i64 0, .string ⟨#[]⟩], .int .i64 0]) ?_ rfl ⟨rfl, al w _⟩
    rw [results_cell_tmp rfl]
    go_simp
  rw [if_neg h2]
  have n2 := ne_lit (l := [43, 105, 110, 102]) h2
  clear h2
  by_cases h2 : s = ⟨#[105, 110, 102]⟩
  · rw [if_pos h2]
    subst h2
    clear n1 n2
    go_enter Tryz.func19, Tryz.ntmps19
    go_wp2_with fail
    (try simp only [Exit.inBlock, Exit.then])
    refine bodyPost_ret (v := .tuple #[.agg #[.int .i64 1, .bool false, .int .i64 0, .string ⟨#[]⟩], .int .i64 0]) ?_ rfl ⟨rfl, al w _⟩
    rw [results_cell_tmp rfl]
    go_simp
  rw [if_neg h2]
  have n4 := ne_lit (l := [105, 110, 102]) h2
  clear h2
  obtain ⟨O, hO⟩ : ∃ O, O = decide (byte0 s = 40) := ⟨_, rfl⟩
  rw [← hO]
  obtain ⟨R, hR⟩ : ∃ R, R = restB s := ⟨_, rfl⟩
  have hRs : R.size ≤ 281474976710656 := by
    rw [hR]; unfold restB; split
    · rw [ByteArray.size_extract]; omega
    · exact hs
  have hpc := fun W => parseR_calls R W hRs
  unfold numD
  rw [← hR]
  have hmay : Hid (∀ n W, Calls Tryz.prog 34 #[.int .i64 n] W fun e w' => e = .returned (.bool (decide (okS n))) ∧ w' = W) := Lib.hid (fun n W => may_calls n W)
  have HR := Lib.hid hR
  obtain ⟨D, hD⟩ : ∃ D, D = parseD R.data.toList := ⟨_, rfl⟩
  rw [← hD]
  simp only [← hD] at hpc
  clear hR hD hRs
  rcases D with _ | n
  · unfold parseV at hpc
    simp only at hpc ⊢
    by_cases h3 : 0 < s.size
    · have hb : byte0 s = s[0].toNat := dif_pos h3
      have n3 := ne_nil h3
      by_cases h4 : byte0 s = 40
      · have k5 : ((s[0].toNat : Int) == 40) = true := by rw [← hb, h4]; rfl
        have hR2 : R = s.extract 1 s.size := by rw [HR.out]; unfold restB; rw [if_pos h4]
        rw [decide_eq_true h4] at hO
        subst hO hR2
        clear h4 hb
        go_enter Tryz.func19, Tryz.ntmps19
        go_wp2_with (first | (go_at_call 47; refine (hpc _).mono ?_; rintro e w3 ⟨rfl, hw3⟩; subst w3) | (go_at_call 34; refine (hmay.out _ _).mono ?_; rintro e w4 ⟨rfl, hw4⟩; subst w4))
        (try simp only [Exit.inBlock, Exit.then])
        refine bodyPost_ret (v := .tuple #[.agg #[.int .i64 0, .bool false, .int .i64 0, .string ⟨#[]⟩], .int .i64 121]) ?_ rfl ⟨rfl, al w _⟩
        rw [results_cell_tmp rfl]
        go_simp
      · have k5 : ((s[0].toNat : Int) == 40) = false := by rw [beq_eq_false_iff_ne]; omega
        have hR2 : R = s := by rw [HR.out]; unfold restB; rw [if_neg h4]
        rw [decide_eq_false h4] at hO
        subst hO hR2
        clear h4 hb
        go_enter Tryz.func19, Tryz.ntmps19
        go_wp2_with (first | (go_at_call 47; refine (hpc _).mono ?_; rintro e w3 ⟨rfl, hw3⟩; subst w3) | (go_at_call 34; refine (hmay.out _ _).mono ?_; rintro e w4 ⟨rfl, hw4⟩; subst w4))
        (try simp only [Exit.inBlock, Exit.then])
        refine bodyPost_ret (v := .tuple #[.agg #[.int .i64 0, .bool false, .int .i64 0, .string ⟨#[]⟩], .int .i64 121]) ?_ rfl ⟨rfl, al w _⟩
        rw [results_cell_tmp rfl]
        go_simp
    · have hb : byte0 s = 0 := dif_neg h3
      have n3 := is_nil h3
      have h4 : ¬ byte0 s = 40 := by omega
      have hR2 : R = s := by rw [HR.out]; unfold restB; rw [if_neg h4]
      rw [decide_eq_false h4] at hO
      subst hO hR2
      clear h4 hb
      go_enter Tryz.func19, Tryz.ntmps19
      go_wp2_with (first | (go_at_call 47; refine (hpc _).mono ?_; rintro e w3 ⟨rfl, hw3⟩; subst w3) | (go_at_call 34; refine (hmay.out _ _).mono ?_; rintro e w4 ⟨rfl, hw4⟩; subst w4))
      (try simp only [Exit.inBlock, Exit.then])
      refine bodyPost_ret (v := .tuple #[.agg #[.int .i64 0, .bool false, .int .i64 0, .string ⟨#[]⟩], .int .i64 121]) ?_ rfl ⟨rfl, al w _⟩
      rw [results_cell_tmp rfl]
      go_simp
  · unfold parseV at hpc
    simp only at hpc ⊢
    by_cases hok : okS n
    · rw [if_pos hok]
      have hmy : decide (okS n) = true := decide_eq_true hok
      clear hok
      by_cases h3 : 0 < s.size
      · have hb : byte0 s = s[0].toNat := dif_pos h3
        have n3 := ne_nil h3
        by_cases h4 : byte0 s = 40
        · have k5 : ((s[0].toNat : Int) == 40) = true := by rw [← hb, h4]; rfl
          have hR2 : R = s.extract 1 s.size := by rw [HR.out]; unfold restB; rw [if_pos h4]
          rw [decide_eq_true h4] at hO
          subst hO hR2
          clear h4 hb
          go_enter Tryz.func19, Tryz.ntmps19
          go_wp2_with (first | (go_at_call 47; refine (hpc _).mono ?_; rintro e w3 ⟨rfl, hw3⟩; subst w3) | (go_at_call 34; refine (hmay.out _ _).mono ?_; rintro e w4 ⟨rfl, hw4⟩; subst w4))
          (try simp only [Exit.inBlock, Exit.then])
          refine bodyPost_ret (v := .tuple #[.agg #[.int .i64 0, .bool true, .int .i64 n, .string ⟨#[]⟩], .int .i64 0]) ?_ rfl ⟨rfl, al w _⟩
          rw [results_cell_tmp rfl]
          go_simp
        · have k5 : ((s[0].toNat : Int) == 40) = false := by rw [beq_eq_false_iff_ne]; omega
          have hR2 : R = s := by rw [HR.out]; unfold restB; rw [if_neg h4]
          rw [decide_eq_false h4] at hO
          subst hO hR2
          clear h4 hb
          go_enter Tryz.func19, Tryz.ntmps19
          go_wp2_with (first | (go_at_call 47; refine (hpc _).mono ?_; rintro e w3 ⟨rfl, hw3⟩; subst w3) | (go_at_call 34; refine (hmay.out _ _).mono ?_; rintro e w4 ⟨rfl, hw4⟩; subst w4))
          (try simp only [Exit.inBlock, Exit.then])
          refine bodyPost_ret (v := .tuple #[.agg #[.int .i64 0, .bool false, .int .i64 n, .string ⟨#[]⟩], .int .i64 0]) ?_ rfl ⟨rfl, al w _⟩
          rw [results_cell_tmp rfl]
          go_simp
      · have hb : byte0 s = 0 := dif_neg h3
        have n3 := is_nil h3
        have h4 : ¬ byte0 s = 40 := by omega
        have hR2 : R = s := by rw [HR.out]; unfold restB; rw [if_neg h4]
        rw [decide_eq_false h4] at hO
        subst hO hR2
        clear h4 hb
        go_enter Tryz.func19, Tryz.ntmps19
        go_wp2_with (first | (go_at_call 47; refine (hpc _).mono ?_; rintro e w3 ⟨rfl, hw3⟩; subst w3) | (go_at_call 34; refine (hmay.out _ _).mono ?_; rintro e w4 ⟨rfl, hw4⟩; subst w4))
        (try simp only [Exit.inBlock, Exit.then])
        refine bodyPost_ret (v := .tuple #[.agg #[.int .i64 0, .bool false, .int .i64 n, .string ⟨#[]⟩], .int .i64 0]) ?_ rfl ⟨rfl, al w _⟩
        rw [results_cell_tmp rfl]
        go_simp
    · rw [if_neg hok]
      have hmy : decide (okS n) = false := decide_eq_false hok
      clear hok
      by_cases h3 : 0 < s.size
      · have hb : byte0 s = s[0].toNat := dif_pos h3
        have n3 := ne_nil h3
        by_cases h4 : byte0 s = 40
        · have k5 : ((s[0].toNat : Int) == 40) = true := by rw [← hb, h4]; rfl
          have hR2 : R = s.extract 1 s.size := by rw [HR.out]; unfold restB; rw [if_pos h4]
          rw [decide_eq_true h4] at hO
          subst hO hR2
          clear h4 hb
          go_enter Tryz.func19, Tryz.ntmps19
          go_wp2_with (first | (go_at_call 47; refine (hpc _).mono ?_; rintro e w3 ⟨rfl, hw3⟩; subst w3) | (go_at_call 34; refine (hmay.out _ _).mono ?_; rintro e w4 ⟨rfl, hw4⟩; subst w4))
          (try simp only [Exit.inBlock, Exit.then])
          refine bodyPost_ret (v := .tuple #[.agg #[.int .i64 0, .bool false, .int .i64 0, .string ⟨#[]⟩], .int .i64 121]) ?_ rfl ⟨rfl, al w _⟩
          rw [results_cell_tmp rfl]
          go_simp
        · have k5 : ((s[0].toNat : Int) == 40) = false := by rw [beq_eq_false_iff_ne]; omega
          have hR2 : R = s := by rw [HR.out]; unfold restB; rw [if_neg h4]
          rw [decide_eq_false h4] at hO
          subst hO hR2
          clear h4 hb
          go_enter Tryz.func19, Tryz.ntmps19
          go_wp2_with (first | (go_at_call 47; refine (hpc _).mono ?_; rintro e w3 ⟨rfl, hw3⟩; subst w3) | (go_at_call 34; refine (hmay.out _ _).mono ?_; rintro e w4 ⟨rfl, hw4⟩; subst w4))
          (try simp only [Exit.inBlock, Exit.then])
          refine bodyPost_ret (v := .tuple #[.agg #[.int .i64 0, .bool false, .int .i64 0, .string ⟨#[]⟩], .int .i64 121]) ?_ rfl ⟨rfl, al w _⟩
          rw [results_cell_tmp rfl]
          go_simp
      · have hb : byte0 s = 0 := dif_neg h3
        have n3 := is_nil h3
        have h4 : ¬ byte0 s = 40 := by omega
        have hR2 : R = s := by rw [HR.out]; unfold restB; rw [if_neg h4]
        rw [decide_eq_false h4] at hO
        subst hO hR2
        clear h4 hb
        go_enter Tryz.func19, Tryz.ntmps19
        go_wp2_with (first | (go_at_call 47; refine (hpc _).mono ?_; rintro e w3 ⟨rfl, hw3⟩; subst w3) | (go_at_call 34; refine (hmay.out _ _).mono ?_; rintro e w4 ⟨rfl, hw4⟩; subst w4))
        (try simp only [Exit.inBlock, Exit.then])
        refine bodyPost_ret (v := .tuple #[.agg #[.int .i64 0, .bool false, .int .i64 0, .string ⟨#[]⟩], .int .i64 121]) ?_ rfl ⟨rfl, al w _⟩
        rw [results_cell_tmp rfl]
        go_simp
end Go.Proofs.YtakhcfemakapbaaGreatDoor.RjG
