/-
  Rd; Lays: what the claim uses of them.
-/
import Derived.Test.YtegpahamenjiaaaGreatBn24
import Derived.Shelf.Slices.CompactI
import Derived.Shelf.Slices.In.SortNone
import Derived.Shelf.Sort.Plain
import Derived.Test.YtegpahamenjiaaaGreatBn11
namespace Go.Proofs.YtegpahamenjiaaaGreat
open Go.RowKit
set_option maxRecDepth 100000
theorem inC_set (l : List Int) (k : Nat) (x : Int) {z : Int} (hz : z = k) : (inC l).set (0 + z.toNat * 1) (.int .i64 x) = inC (l.set k x) := by
  subst hz
  rw [Int.toNat_natCast, Nat.mul_one, Nat.zero_add]
  unfold inC
  rw [List.map_set]
theorem inC_write {i : TI} (hs : i.size = 1) {l : List Int} (x : Int) {a : Int} (h1 : 0 ≤ a) (h2 : a < l.length) : writeAs i (inC l) (0 + a.toNat * 1) (.int .i64 x) = some (inC (l.set a.toNat x)) := by
  rw [write1 hs rfl (by rw [inC_len]; omega), inC_set l a.toNat x (by omega)]
theorem rep_inC (n : Nat) : repC [.int .i64 0] n = inC (List.replicate n 0) := by
  induction n with
  | zero => rfl
  | succ n ih => show AV.int .i64 0 :: repC [.int .i64 0] n = _; rw [ih]; rfl
theorem fin_inC {R : AV → Hp → Prop} {b n : Nat} {o : List Int} {σ : Hp} (hn : o.length = n) (h : Fin R (.fsl (.int .i64) o) σ) : Fin R (.mref b 0 n 1) ((b, inC o) :: σ) := by
  subst hn
  exact .frz 0 b 0 o.length 1 _ (.int .i64) o rfl (by rw [List.drop_zero, ← inC_flat]; exact List.take_of_length_le (by rw [inC_len]; omega)) ⟨rfl, rfl, by decide⟩ .here h
theorem share_in {k a n : Int} (hk : 1 ≤ k) (ha : 0 ≤ a) (h : a < n) : 0 ≤ (k * a).tdiv n ∧ (k * a).tdiv n < k := by
  have h1 : 0 ≤ k * a := Int.mul_nonneg (by omega) ha
  have h2 : k * a < k * n := Int.mul_lt_mul_of_pos_left h (by omega)
  rw [Int.tdiv_eq_ediv_of_nonneg h1]
  exact ⟨Int.ediv_nonneg h1 (by omega), Int.ediv_lt_of_lt_mul (by omega) h2⟩
def OwI (n : Nat) (k : Int) (o : List Int) : Prop := o.length = n ∧ ∀ z ∈ o, 0 ≤ z ∧ z < k
theorem OwI.set {n : Nat} {k : Int} {o : List Int} (h : OwI n k o) (i : Nat) {x : Int} (hx : 0 ≤ x ∧ x < k) : OwI n k (o.set i x) := ⟨by rw [List.length_set]; exact h.1, fun z hz => by
  rcases List.mem_or_eq_of_mem_set hz with h1 | rfl
  · exact h.2 z h1
  · exact hx⟩
theorem take_flatI {ps : List (List Int)} {i : Nat} (h : i < ps.length) : (ps.take (i + 1)).flatten.length = (ps.take i).flatten.length + ps[i].length := by
  rw [List.take_add_one, List.getElem?_eq_getElem h, List.flatten_append, List.length_append]
  simp
theorem aROwners (n : Nat) (l : List EdgeT) (k : Int) (σ : Hp) (hl : l.length ≤ 100000) (h1 : 1 ≤ n) (hn : n ≤ 256) (hk1 : 1 ≤ k) (hk2 : k ≤ 64) : ACalls Tryz.prog 143 [.int .i64 n, .fsl edgeSh l, .int .i64 k] σ (fun r σ' => ∃ o, r = .fsl (.int .i64) o ∧ σ' = σ ∧ OwI n k o) := by
  refine okF Tryz.func143 (by kernel_rfl) ?_
  refine With.mk ⟨by omega, by omega, by omega, by decide⟩ ?_
  intro bq
  refine .mk [] _ (aROf n l _ hl hn) ?_
  rintro _ _ ⟨(ps : List (List Int)), told, rfl, rfl, hI⟩
  have hpl := hI.plen
  refine loopS (S := Nat × List Int) (fun s => [(0, .int .i64 n), (2, .int .i64 k), (7, .mref bq 0 n 1), (8, .int .i64 (ps.take s.1).flatten.length), (17, .fsl (.slice (.int .i64)) ps), (18, .int .i64 ps.length), (19, .int .i64 s.1)]) (fun s => (bq, inC s.2) :: σ) (fun s => s.1 ≤ ps.length ∧ OwI n k s.2) (fun s => ps.length - s.1) (0, List.replicate n 0) ⟨⟨Nat.zero_le _, by simp, fun z hz => by rw [List.eq_of_mem_replicate hz]; omega⟩, ⟨rfl, rfl, rfl, rfl, rfl, rfl, rfl, trivial⟩, by show _ = (bq, inC (List.replicate n 0)) :: σ; rw [← rep_inC]; rfl⟩ ?_
  rintro ⟨i, o⟩ g ⟨hi0, ho0⟩
  have hi : i ≤ ps.length := hi0
  have ho : OwI n k o := ho0
  clear hi0 ho0
  refine bcond_dec (p := (i : Int) < (ps.length : Int)) (fun hlt => ?_) (fun hge => ?_)
  rotate_left
  · exact fin_inC ho.1 (.done ⟨o, rfl, rfl, ho⟩)
  have hlt : i < ps.length := by omega
  have hah := hI.ahead i hlt
  have htf := take_flatI hlt
  have hpn := hI.node ps[i] (List.getElem_mem hlt)
  have hpl2 := (hI.ne ps[i] (List.getElem_mem hlt)).2
  obtain ⟨p, hp⟩ : ∃ p, ps[i] = p := ⟨_, rfl⟩
  rw [hp] at htf hpn hpl2
  refine With.mk rfl (IdxF.mk p (by omega) ((get_some hlt).trans (congrArg some hp)) ?_)
  generalize hA : (ps.take i).flatten.length = A at hah htf
  refine loopS (S := Nat × List Int) (fun s => [(0, .int .i64 n), (2, .int .i64 k), (7, .mref bq 0 n 1), (8, .int .i64 A), (10, .fsl (.int .i64) p), (17, .fsl (.slice (.int .i64)) ps), (18, .int .i64 ps.length), (19, .int .i64 i), (23, .fsl (.int .i64) p), (24, .int .i64 p.length), (25, .int .i64 s.1)]) (fun s => (bq, inC s.2) :: σ) (fun s => s.1 ≤ p.length ∧ OwI n k s.2) (fun s => p.length - s.1) (0, o) ⟨⟨Nat.zero_le _, ho⟩, ⟨rfl, rfl, rfl, by rw [← hA]; rfl, rfl, rfl, rfl, rfl, rfl, rfl, rfl, trivial⟩, rfl⟩ ?_
  clear ho
  rintro ⟨j, o⟩ g2 ⟨hj0, ho0⟩
  have hj : j ≤ p.length := hj0
  have ho : OwI n k o := ho0
  clear hj0 ho0
  refine bcond_dec (p := (j : Int) < (p.length : Int)) (fun hlt2 => ?_) (fun hge2 => ?_)
  rotate_left
  · refine nextS (i + 1, o) (by show ps.length - (i + 1) < ps.length - i; omega) ⟨hlt, ho⟩ ⟨rfl, rfl, rfl, ?_, rfl, rfl, inc64 (by omega), trivial⟩ (.refl _)
    show AV.int .i64 (IntKind.i64.wrap ((A : Int) + (p.length : Int))) = .int .i64 (ps.take (i + 1)).flatten.length
    exact congrArg (AV.int .i64) (by rw [htf, IntKind.wrap_i64]; omega)
  have hlt2 : j < p.length := by omega
  obtain ⟨z, hz⟩ : ∃ z, p[j] = z := ⟨_, rfl⟩
  have hzn := hpn z (hz ▸ List.getElem_mem hlt2)
  refine With.mk rfl (IdxF.mk z (by omega) ((get_some hlt2).trans (congrArg some hz)) ?_)
  refine With.mk (by omega) ?_
  refine With.mk ⟨rfl, by omega, by omega⟩ ?_
  have hX : 0 ≤ IntKind.i64.wrap ((IntKind.i64.wrap (k * (A : Int))).tdiv n) ∧ IntKind.i64.wrap ((IntKind.i64.wrap (k * (A : Int))).tdiv n) < k := by
    have hs := share_in (k := k) (a := (A : Int)) (n := n) hk1 (by omega) (by omega)
    have h3 : 0 ≤ k * (A : Int) := Int.mul_nonneg (by omega) (by omega)
    have h4 : k * (A : Int) ≤ 64 * 256 := Int.mul_le_mul hk2 (by omega) (by omega) (by omega)
    rw [IntKind.wrap_i64 (k * (A : Int)), show (k * (A : Int) + 9223372036854775808) % 18446744073709551616 - 9223372036854775808 = k * (A : Int) by omega, IntKind.wrap_i64]
    omega
  have ho1 := ho.1
  refine StoreAt.mk 0 _ _ rfl (inC_write (l := o) rfl _ hzn.1 (by omega)) ?_
  exact nextS (j + 1, o.set z.toNat _) (by show p.length - (j + 1) < p.length - j; omega) ⟨hlt2, ho.set z.toNat hX⟩ ⟨rfl, rfl, rfl, rfl, rfl, rfl, rfl, rfl, rfl, rfl, inc64 (by omega), trivial⟩ (.refl _)
end Go.Proofs.YtegpahamenjiaaaGreat
namespace Go.Proofs.YtegpahamenjiaaaGreat
open Go.Shelf
def lays189_ren : Go.Shelf.Ren := ⟨fun | 189 => 177 | 125 => 168 | 257 => 209 | 128 => 204 | 129 => 205 | 294 => 230 | 295 => 231 | 296 => 232 | 297 => 233 | 298 => 234 | 299 => 235 | 216 => 236 | 300 => 237 | 301 => 238 | 328 => 245 | 329 => 225 | 330 => 226 | 331 => 246 | 332 => 247 | 215 => 169 | 343 => 249 | n => n, fun | 28 => 23 | 3 => 3 | 46 => 245 | 0 => 0 | 51 => 268 | 53 => 35 | 4 => 4 | 183 => 262 | 182 => 261 | 131 => 61 | 5 => 5 | 9 => 9 | 218 => 278 | 222 => 282 | 228 => 295 | 229 => 296 | n => n, fun | n => n⟩
theorem lays189 : Go.Proofs.Lays.n189 Tryz.prog lays189_ren := {
  mixed := by kernel_rfl
  f125 := Tryz.func168.trans (congrArg some (by kernel_rfl))
  f128 := Tryz.func204.trans (congrArg some (by kernel_rfl))
  f129 := Tryz.func205.trans (congrArg some (by kernel_rfl))
  f189 := Tryz.func177.trans (congrArg some (by kernel_rfl))
  f215 := Tryz.func169.trans (congrArg some (by kernel_rfl))
  f216 := Tryz.func236.trans (congrArg some (by kernel_rfl))
  f257 := Tryz.func209.trans (congrArg some (by kernel_rfl))
  f294 := Tryz.func230.trans (congrArg some (by kernel_rfl))
  f295 := Tryz.func231.trans (congrArg some (by kernel_rfl))
  f296 := Tryz.func232.trans (congrArg some (by kernel_rfl))
  f297 := Tryz.func233.trans (congrArg some (by kernel_rfl))
  f298 := Tryz.func234.trans (congrArg some (by kernel_rfl))
  f299 := Tryz.func235.trans (congrArg some (by kernel_rfl))
  f300 := Tryz.func237.trans (congrArg some (by kernel_rfl))
  f301 := Tryz.func238.trans (congrArg some (by kernel_rfl))
  f328 := Tryz.func245.trans (congrArg some (by kernel_rfl))
  f329 := Tryz.func225.trans (congrArg some (by kernel_rfl))
  f330 := Tryz.func226.trans (congrArg some (by kernel_rfl))
  f331 := Tryz.func246.trans (congrArg some (by kernel_rfl))
  f332 := Tryz.func247.trans (congrArg some (by kernel_rfl))
  f343 := Tryz.func249.trans (congrArg some (by kernel_rfl))
  t0 := Tryz.underlying0
  a0 := Tryz.isAgg0
  z0 := Tryz.sizeOf0
  v0 := Tryz.zeroValue0
  t3 := Tryz.underlying3
  a3 := Tryz.isAgg3
  z3 := Tryz.sizeOf3
  v3 := Tryz.zeroValue3
  t4 := Tryz.underlying4
  a4 := Tryz.isAgg4
  z4 := Tryz.sizeOf4
  v4 := Tryz.zeroValue4
  t5 := Tryz.underlying5
  a5 := Tryz.isAgg5
  z5 := Tryz.sizeOf5
  v5 := Tryz.zeroValue5
  t9 := Tryz.underlying9
  a9 := Tryz.isAgg9
  z9 := Tryz.sizeOf9
  v9 := Tryz.zeroValue9
  t28 := Tryz.underlying23
  a28 := Tryz.isAgg23
  z28 := Tryz.sizeOf23
  v28 := Tryz.zeroValue23
  t46 := Tryz.underlying245
  a46 := Tryz.isAgg245
  z46 := Tryz.sizeOf245
  v46 := Tryz.zeroValue245
  t51 := Tryz.underlying268
  a51 := Tryz.isAgg268
  z51 := Tryz.sizeOf268
  v51 := Tryz.zeroValue268
  t53 := Tryz.underlying35
  a53 := Tryz.isAgg35
  z53 := Tryz.sizeOf35
  v53 := Tryz.zeroValue35
  t131 := Tryz.underlying61
  a131 := Tryz.isAgg61
  z131 := Tryz.sizeOf61
  v131 := Tryz.zeroValue61
  t182 := Tryz.underlying261
  a182 := Tryz.isAgg261
  z182 := Tryz.sizeOf261
  v182 := Tryz.zeroValue261
  t183 := Tryz.underlying262
  a183 := Tryz.isAgg262
  z183 := Tryz.sizeOf262
  v183 := Tryz.zeroValue262
  t218 := Tryz.underlying278
  a218 := Tryz.isAgg278
  z218 := Tryz.sizeOf278
  v218 := Tryz.zeroValue278
  t222 := Tryz.underlying282
  a222 := Tryz.isAgg282
  z222 := Tryz.sizeOf282
  v222 := Tryz.zeroValue282
  t228 := Tryz.underlying295
  a228 := Tryz.isAgg295
  z228 := Tryz.sizeOf295
  v228 := Tryz.zeroValue295
  t229 := Tryz.underlying296
  a229 := Tryz.isAgg296
  z229 := Tryz.sizeOf296
  v229 := Tryz.zeroValue296 }
def laysB20_ren : Go.Shelf.Ren := ⟨fun | 20 => 178 | n => n, fun | 22 => 23 | 3 => 3 | 4 => 4 | 0 => 0 | n => n, fun | n => n⟩
theorem laysB20 : Go.Proofs.Lays2.n20 Tryz.prog laysB20_ren := {
  mixed := by kernel_rfl
  f20 := Tryz.func178.trans (congrArg some (by kernel_rfl))
  t0 := Tryz.underlying0
  a0 := Tryz.isAgg0
  z0 := Tryz.sizeOf0
  v0 := Tryz.zeroValue0
  t3 := Tryz.underlying3
  a3 := Tryz.isAgg3
  z3 := Tryz.sizeOf3
  v3 := Tryz.zeroValue3
  t4 := Tryz.underlying4
  a4 := Tryz.isAgg4
  z4 := Tryz.sizeOf4
  v4 := Tryz.zeroValue4
  t22 := Tryz.underlying23
  a22 := Tryz.isAgg23
  z22 := Tryz.sizeOf23
  v22 := Tryz.zeroValue23
  i3 := by kernel_rfl }
end Go.Proofs.YtegpahamenjiaaaGreat
