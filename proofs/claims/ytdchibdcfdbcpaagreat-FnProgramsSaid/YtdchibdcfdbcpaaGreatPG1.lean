/- Places near a least value's; codes of least values. No condition. -/
import Derived.Test.YtdchibdcfdbcpaaGreatPG0
import Derived.Test.YtdchibdcfdbcpaaGreatGQX
namespace Go.Proofs.YtdchibdcfdbcpaaGreat
open Go.Ab

theorem com_ones {xs : List Frac} (h : ∀ a ∈ xs, a.2 = 1) : ∀ i, comTo xs i = 1
  | 0 => rfl
  | i + 1 => by
    have e : (xs.getD i (0, 1)).2 = 1 := by
      simp only [List.getD_eq_getElem?_getD]
      cases e : xs[i]? with
      | none => rfl
      | some a => exact h a (List.mem_of_getElem? e)
    simp only [comTo]
    rw [com_ones h i, e]
    decide

abbrev onesF (x : List Int) : List Frac := x.map fun n => ((n, 1) : Frac)

theorem tog_ones {m n : Int} {x : List Int} (hm : 1 ≤ m) (hx : ∀ a ∈ x, -n ≤ a ∧ a ≤ n) : tog m n (onesF x) = some (x, 1) := by
  have ones : ∀ a ∈ onesF x, a.2 = 1 := fun a ha => by
    obtain ⟨n, _, rfl⟩ := List.mem_map.1 ha
    rfl
  have hc : ∀ a : Int, comNum 1 (a, 1) = a := fun a => by
    show a * (1 : Int).tdiv 1 = a
    rw [show (1 : Int).tdiv 1 = 1 from rfl, Int.mul_one]
  have hok : okNum n 1 (onesF x) := fun a ha => by
    obtain ⟨b, hb, rfl⟩ := List.mem_map.1 ha
    rw [hc b]
    exact hx b hb
  have hden : okDen m (onesF x) := fun i _ => by rw [com_ones ones]; exact hm
  have hmap : (onesF x).map (comNum 1) = x := by
    rw [List.map_map]
    conv => rhs; rw [← List.map_id x]
    exact List.map_congr_left fun a _ => hc a
  unfold tog
  rw [com_ones ones, if_pos ⟨hden, hok⟩, hmap]

theorem ones_frs {x : List Int} (hx : ∀ a ∈ x, 0 ≤ a ∧ a ≤ 5) : Frs (onesF x) := fun a ha => by
  obtain ⟨b, hb, rfl⟩ := List.mem_map.1 ha
  have := hx b hb
  exact isFr_iff.2 ⟨⟨by show (1 : Int) ≤ 1; decide, by show (1 : Int) ≤ 1000000000; decide⟩, ⟨by show -1000000000 ≤ b; omega, by show b ≤ 1000000000; omega⟩, by show Int.gcd b 1 = 1; simp⟩

/-- A place near. -/
theorem pg_near {g : Prg} (h : (moRes g).2.2.2 = 0) {x : List Int} (hl : x.length = (moRes g).1.length) (hx : ∀ a ∈ x, 0 ≤ a ∧ a ≤ 5) :
    (plRes g (onesF x)).2 = 0 ∧ (vaRes g (onesF x)).2 = 0 ∧ isFr 1000000000 (vaRes g (onesF x)).1 = true ∧ isFr 1000000000 (moRes g).2.2.1 = true ∧
      ((plRes g (onesF x)).1 = true → ¬ sgI ((vaRes g (onesF x)).1.1 * (moRes g).2.2.1.2 - (moRes g).2.2.1.1 * (vaRes g (onesF x)).1.2) < 0) := by
  obtain ⟨z, w, D, b⟩ := mo_best h
  have hp := b.prg
  have n1 := hp.n1; have nm := hp.nm; have dl := hp.dl
  have hlen : x.length = g.2.1.length := by rw [hl, b.x]; simp
  have hfr := ones_frs hx
  have hol : (onesF x).length = g.2.1.length := by rw [List.length_map]; exact hlen
  have t1 : tog 1000000000 1000000000000 (onesF x) = some (x, 1) := tog_ones (by decide) fun a ha => by have := hx a ha; omega
  have t2 : tog 10000 10000000 (onesF x) = some (x, 1) := tog_ones (by decide) fun a ha => by have := hx a ha; omega
  have hpl : plRes g (onesF x) = (@decide (plOK g x 1) (Classical.propDecidable _), 0) := by
    unfold plRes
    rw [if_pos ⟨hp, hfr⟩, if_pos hol, t1]
  have hva : vaRes g (onesF x) = fracT (vaNum g x 1) 2 := by
    unfold vaRes
    rw [if_pos ⟨hp, hfr⟩, if_pos hol, t2]
    rfl
  have hr : ∀ r ∈ g.1, r.length ≤ 5 ∧ ∀ e ∈ r, e.natAbs ≤ 20 := fun r hr => ⟨by have := (hp.d r hr).1; omega, fun e he => by have := (hp.d r hr).2 e he; omega⟩
  have ha : ∀ a ∈ x, a.natAbs ≤ 5 := fun a ha => by have := hx a ha; omega
  have hc : ∀ e ∈ g.2.1, e.natAbs ≤ 100 := fun e he => by have := hp.c e he; omega
  have h1 : (formV g.1 x x).natAbs ≤ g.1.length * (5 * (5 * (20 * 5))) := sumTo_abs fun i _ => mul_abs (getD_abs ha i) (row_dot hr ha i)
  have h2 := dot_abs hc ha
  have h3 := mul5 (n := g.1.length) (N := 5 * (5 * (20 * 5))) (by omega)
  have h4 := mul5 (n := g.2.1.length) (N := 100 * 5) (by omega)
  have hn : (vaNum g x 1).natAbs ≤ 20000 := by
    unfold vaNum
    omega
  have hf : isFr 1000000000 (frac (vaNum g x 1) 2) = true := by
    have p := frac_pos (n := vaNum g x 1) (d := 2) (by decide)
    have q := frac_abs (x := vaNum g x 1) (d := 2)
    have q2 : (2 : Int).natAbs = 2 := rfl
    exact isFr_iff.2 ⟨⟨by omega, by omega⟩, ⟨by omega, by omega⟩, frac_gcd (by decide)⟩
  have hvt : fracT (vaNum g x 1) 2 = (frac (vaNum g x 1) 2, 0) := by
    unfold fracT
    rw [if_pos hf]
  rw [hpl, hva, hvt]
  refine ⟨rfl, rfl, hf, b.vf, fun hin => ?_⟩
  have hok : plOK g x 1 := @of_decide_eq_true _ (Classical.propDecidable _) hin
  have hal := hp.al
  have le := b.least (x := x) (fun a ha => (hx a ha).1) fun j hj => by
    have := hok.1 j (by omega)
    rw [Int.mul_one] at this
    exact this
  have m1 := frac_mul (n := vaNum g x 1) (d := 2) (by decide)
  have hD := b.pos
  have m2 := frac_mul (n := (Go.Ab.sumTo g.2.1.length fun i => g.2.1.getD i 0 * z i) + Go.Ab.sumTo g.2.2.2.length fun j => g.2.2.2.getD j 0 * z (g.2.1.length + j)) (d := 2 * D) (by omega)
  rw [← b.v] at m2
  have v2 := (isFr_iff.1 b.vf).1
  have f2 := (isFr_iff.1 hf).1
  generalize (Go.Ab.sumTo g.2.1.length fun i => g.2.1.getD i 0 * z i) + (Go.Ab.sumTo g.2.2.2.length fun j => g.2.2.2.getD j 0 * z (g.2.1.length + j)) = S at *
  generalize vaNum g x 1 = V at *
  show ¬ sgI ((frac V 2).1 * (moRes g).2.2.1.2 - (moRes g).2.2.1.1 * (frac V 2).2) < 0
  generalize frac V 2 = o at *
  generalize (moRes g).2.2.1 = v at *
  have key : (o.1 * v.2 - v.1 * o.2) * (2 * D) = (D * V - S) * (o.2 * v.2) := by
    rw [Int.sub_mul, show o.1 * v.2 * (2 * D) = o.1 * 2 * (v.2 * D) by ac_rfl, m1, show v.1 * o.2 * (2 * D) = v.1 * (2 * D) * o.2 by ac_rfl, m2, Int.sub_mul]
    rw [show V * o.2 * (v.2 * D) = D * V * (o.2 * v.2) by ac_rfl, show S * v.2 * o.2 = S * (o.2 * v.2) by ac_rfl]
  have h0 : 0 ≤ (D * V - S) * (o.2 * v.2) := Int.mul_nonneg (by omega) (Int.mul_nonneg (by omega) (by omega))
  rw [← key] at h0
  have h1 : 0 ≤ o.1 * v.2 - v.1 * o.2 := Int.nonneg_of_mul_nonneg_left h0 (by omega)
  generalize o.1 * v.2 - v.1 * o.2 = O at *
  unfold sgI
  rw [if_neg (by omega)]
  split <;> decide

theorem mo_i64 (g : Prg) : I64 (moRes g).2.2.1.1 ∧ I64 (moRes g).2.2.1.2 := by
  have z : I64 0 := by unfold I64; omega
  unfold moRes
  split
  · split
    · split
      · unfold moAt
        split
        · split
          · exact fracT_i64 _ _
          · exact ⟨z, z⟩
        · exact ⟨z, z⟩
      · exact ⟨z, z⟩
    · exact ⟨z, z⟩
  · exact ⟨z, z⟩

theorem va_i64 (g : Prg) (xs : List Frac) : I64 (vaRes g xs).1.1 ∧ I64 (vaRes g xs).1.2 := by
  have z : I64 0 := by unfold I64; omega
  unfold vaRes
  split
  · split
    · split
      · exact ⟨z, z⟩
      · exact fracT_i64 _ _
    · exact ⟨z, z⟩
  · exact ⟨z, z⟩

theorem mo_conv {g : Prg} (h : (moRes g).2.2.2 = 0) : (convRes g).1 = true := by
  obtain ⟨z, w, D, b⟩ := mo_best h
  unfold convRes
  rw [if_pos b.prg]
  exact b.semi

theorem mo_state {g : Prg} (h : (moRes g).2.2.2 = 5) : (convRes g).1 = false := by
  unfold moRes at h
  unfold convRes
  split at h
  · rename_i hp
    rw [if_pos hp]
    split at h
    · exfalso
      split at h
      · rename_i s _
        unfold moAt at h
        have c0 := frAll_code1 (moZ g s) (moD g s)
        have c1 := fracT_code (moSum g (moZ g s)) (2 * moD g s)
        split at h
        · split at h
          · cases h
          · have h : (fracT (moSum g (moZ g s)) (2 * moD g s)).2 = 5 := h
            omega
        · have h : (frAll (moZ g s) (moD g s)).2 = 5 := h
          omega
      · cases h
    · rename_i hs
      show semiL g.2.1.length g.1 = false
      cases hh : semiL g.2.1.length g.1 with
      | false => rfl
      | true => exact absurd hh hs
  · cases h

end Go.Proofs.YtdchibdcfdbcpaaGreat
