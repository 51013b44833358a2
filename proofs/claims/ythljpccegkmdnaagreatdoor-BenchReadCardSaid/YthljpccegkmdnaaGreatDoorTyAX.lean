/- Part TyAX of the proofs about the benches of the accordion maker: see the last text of the claim for what is proved. -/
import Derived.Lib.SplitLaws
import Derived.Lib.ItoaNum
import Derived.Lib.AtoiAll
import Derived.Lib.SlTrimSet
set_option linter.unusedVariables false
set_option linter.unusedSimpArgs false
set_option linter.unnecessarySimpa false
set_option linter.constructorNameAsVariable false

namespace Go.Txt
open Go
abbrev By := List UInt8
def dig (c : UInt8) : Bool := decide (48 <= c.toNat) && decide (c.toNat <= 57)
def dgv (c : UInt8) : Int := (c.toNat : Int) - 48
def numB : By -> Option Int
 | [a] => if dig a then some (dgv a) else none
 | [a, b] => if a ≠ 48 /\ dig a /\ dig b then some (10 * dgv a + dgv b) else none
 | [a, b, c] => if a ≠ 48 /\ dig a /\ dig b /\ dig c then some (10 * (10 * dgv a + dgv b) + dgv c) else none
 | _ => none
theorem Z1gp {c : UInt8} : dig c = true ↔ 48 <= c.toNat /\ c.toNat <= 57 := by simp [dig]
theorem Z1hu {a : UInt8} {n : Nat} (h : a.toNat = n) : UInt8.ofNat n = a := by subst h; simp
theorem Z1hm {a b : UInt8} : a ≠ b ↔ a.toNat ≠ b.toNat := by rw [ne_eq, ne_eq, UInt8.toNat_inj]
theorem t48 : (48 : UInt8).toNat = 48 := rfl
theorem dd3 {n : Nat} (h1 : ¬ n < 100) (h2 : n < 1000) : Lib.decDigits n = [UInt8.ofNat (48 + n / 100), UInt8.ofNat (48 + n / 10 % 10), UInt8.ofNat (48 + n % 10)] := by
 rw [Lib.decDigits, dif_neg (by omega), Lib.decDigits_two (by omega) (by omega)];rw [Nat.div_div_eq_div_mul]; rfl
theorem toNat_of {n : Nat} (h : n < 256) : (UInt8.ofNat n).toNat = n := by simp; omega
theorem Z1j2 {n : Int} (h0 : 0 <= n) (h1 : n <= 999) : numB (Lib.itoa n) = some n := by
 obtain ⟨k, rfl⟩ : ∃ k : Nat, n = k := ⟨n.toNat, by omega⟩;unfold Lib.itoa;rw [if_neg (by omega), Int.toNat_natCast]
 by_cases a : k < 10
 ·rw [Lib.decDigits_one a];simp only [numB, Z1gp, dgv, toNat_of (show 48 + k < 256 by omega)];rw [if_pos (by omega)]; congr 1; omega
 by_cases b : k < 100
 ·rw [Lib.decDigits_two a b];simp only [numB, Z1gp, dgv, Z1hm, t48, toNat_of (show 48 + k / 10 < 256 by omega), toNat_of (show 48 + k % 10 < 256 by omega)];rw [if_pos (by omega)]; congr 1; omega
 ·rw [dd3 b (by omega)];simp only [numB, Z1gp, dgv, Z1hm, t48, toNat_of (show 48 + k / 100 < 256 by omega), toNat_of (show 48 + k / 10 % 10 < 256 by omega), toNat_of (show 48 + k % 10 < 256 by omega)];rw [if_pos (by omega)]; congr 1; omega
theorem Z1j3 {n : Int} (h0 : 0 <= n) (h1 : n <= 999) : 1 <= (Lib.itoa n).length /\ (Lib.itoa n).length <= 3 := by
 obtain ⟨k, rfl⟩ : ∃ k : Nat, n = k := ⟨n.toNat, by omega⟩;unfold Lib.itoa;rw [if_neg (by omega), Int.toNat_natCast]
 by_cases a : k < 10
 ·rw [Lib.decDigits_one a]; simp
 by_cases b : k < 100
 ·rw [Lib.decDigits_two a b]; simp
 ·rw [dd3 b (by omega)]; simp
theorem Z1h2 {s : By} {n : Int} (h : numB s = some n) : 0 <= n /\ n <= 999 /\ Lib.itoa n = s /\ Lib.atoiAll s = .ok n /\ 1 <= s.length /\ s.length <= 3 := by
 have at0 : ∀ {a : UInt8} {r : By} {u : Nat}, dig a = true -> Lib.parseUint10 0 (a :: r) = .ok u -> u < 1000 -> Lib.atoiAll (a :: r) = .ok (u : Int) := fun {a r u} ha hp hu => by
  rw [Z1gp] at ha;unfold Lib.atoiAll;have e1 : ¬ (a.toNat = 43 ∨ a.toNat = 45) := by omega
  have e2 : ¬ a.toNat = 45 := by omega
  have e3 : Lib.parseMag (if a.toNat = 43 ∨ a.toNat = 45 then r else a :: r) = .ok u := by
   rw [if_neg e1]; unfold Lib.parseMag; rw [if_neg (by simp)]; exact hp
  dsimp only;rw [e3];dsimp only;rw [if_neg (by omega), if_neg (by omega), if_neg e2]
 match s, h with
 | [a], h =>
  simp only [numB] at h
  split at h
  ·rename_i ha
   cases h
   have h1 := Z1gp.1 ha;obtain ⟨k, hk⟩ : ∃ k : Nat, a.toNat = 48 + k := ⟨a.toNat - 48, by omega⟩;have e : dgv a = (k : Int) := by unfold dgv; omega
   have hp : Lib.parseUint10 0 [a] = .ok k := by
    simp only [Lib.parseUint10];rw [if_pos h1, if_neg (by omega), if_neg (by omega)]; congr 1; omega
   refine ⟨by omega, by omega, ?_, by rw [e]; exact at0 ha hp (by omega), by simp, by simp⟩;rw [e]; unfold Lib.itoa;rw [if_neg (by omega), Int.toNat_natCast, Lib.decDigits_one (by omega), Z1hu hk]
  ·cases h
 | [a, b], h =>
  simp only [numB] at h
  split at h
  ·rename_i hc
   obtain ⟨hz, ha, hb⟩ := hc
   cases h
   have h1 := Z1gp.1 ha;have h2 := Z1gp.1 hb;rw [Z1hm, t48] at hz;obtain ⟨k, hk⟩ : ∃ k : Nat, a.toNat = 48 + k := ⟨a.toNat - 48, by omega⟩;obtain ⟨k2, hk2⟩ : ∃ k : Nat, b.toNat = 48 + k := ⟨b.toNat - 48, by omega⟩;have e : 10 * dgv a + dgv b = ((10 * k + k2 : Nat) : Int) := by unfold dgv; omega
   have hp : Lib.parseUint10 0 [a, b] = .ok (10 * k + k2) := by
    simp only [Lib.parseUint10];rw [if_pos h1, if_neg (by omega), if_neg (by omega), if_pos h2, if_neg (by omega), if_neg (by omega)]; congr 1; omega
   refine ⟨by omega, by omega, ?_, by rw [e]; exact at0 ha hp (by omega), by simp, by simp⟩;rw [e]; unfold Lib.itoa;rw [if_neg (by omega), Int.toNat_natCast, Lib.decDigits_two (by omega) (by omega), Z1hu (a := a) (by omega), Z1hu (a := b) (by omega)]
  ·cases h
 | [a, b, c], h =>
  simp only [numB] at h
  split at h
  ·rename_i hc
   obtain ⟨hz, ha, hb, hcc⟩ := hc
   cases h
   have h1 := Z1gp.1 ha;have h2 := Z1gp.1 hb;have h3 := Z1gp.1 hcc;rw [Z1hm, t48] at hz;obtain ⟨k, hk⟩ : ∃ k : Nat, a.toNat = 48 + k := ⟨a.toNat - 48, by omega⟩;obtain ⟨k2, hk2⟩ : ∃ k : Nat, b.toNat = 48 + k := ⟨b.toNat - 48, by omega⟩;obtain ⟨k3, hk3⟩ : ∃ k : Nat, c.toNat = 48 + k := ⟨c.toNat - 48, by omega⟩;have e : 10 * (10 * dgv a + dgv b) + dgv c = ((10 * (10 * k + k2) + k3 : Nat) : Int) := by unfold dgv; omega
   have hp : Lib.parseUint10 0 [a, b, c] = .ok (10 * (10 * k + k2) + k3) := by
    simp only [Lib.parseUint10];rw [if_pos h1, if_neg (by omega), if_neg (by omega), if_pos h2, if_neg (by omega), if_neg (by omega), if_pos h3, if_neg (by omega), if_neg (by omega)]; congr 1; omega
   refine ⟨by omega, by omega, ?_, by rw [e]; exact at0 ha hp (by omega), by simp, by simp⟩;rw [e]; unfold Lib.itoa;rw [if_neg (by omega), Int.toNat_natCast, dd3 (by omega) (by omega), Z1hu (a := a) (by omega), Z1hu (a := b) (by omega), Z1hu (a := c) (by omega)]
  ·cases h
theorem Z1j4 {s : By} (h : numB s = none) {n : Int} (h0 : 0 <= n) (hl : s.length <= 3) : Lib.itoa n ≠ s := by
 intro e;subst e;obtain ⟨k, rfl⟩ : ∃ k : Nat, n = k := ⟨n.toNat, by omega⟩;have hk : k < 1000 := by
  have h1 : Lib.itoa (k : Int) = Lib.decDigits k := by unfold Lib.itoa; rw [if_neg (by omega), Int.toNat_natCast]
  rw [h1, Lib.decDigits_length] at hl;have := Lib.lt_pow_nDigits k;have h3 : 10 ^ Lib.nDigits k <= 10 ^ 3 := Nat.pow_le_pow_right (by decide) hl;omega
 rw [Z1j2 (by omega) (by omega)] at h
 cases h
def Z1gn (c : UInt8) : By -> List By
 | [] => [[]]
 | b :: r => if b = c then [] :: Z1gn c r else
  match Z1gn c r with
  | [] => [[b]]
  | l :: ls => (b :: l) :: ls
theorem Z1h7 (c : UInt8) (l : By) : Z1gn c l ≠ [] := by
 cases l with
 | nil => simp [Z1gn]
 | cons b r =>
  simp only [Z1gn]
  split
  ·simp
  ·split <;> simp
theorem Z1hi {c : UInt8} : ∀ {a : By}, c ∉ a -> Z1gn c a = [a]
 | [], _ => rfl
 | b :: r, h => by
  have hb : ¬ b = c := fun e => h (by simp [e]);have hr : c ∉ r := fun hc => h (List.mem_cons_of_mem _ hc);simp only [Z1gn, if_neg hb, Z1hi hr]
theorem Z1hj {c : UInt8} : ∀ {a r : By}, c ∉ a -> Z1gn c (a ++ c :: r) = a :: Z1gn c r
 | [], r, _ => by simp [Z1gn]
 | b :: a, r, h => by
  have hb : ¬ b = c := fun e => h (by simp [e]);have hr : c ∉ a := fun hc => h (List.mem_cons_of_mem _ hc);simp only [List.cons_append, Z1gn, if_neg hb, Z1hj (r := r) hr]
theorem Z1hn (c : UInt8) : ∀ l : By, c ∉ l ∨ ∃ a r, l = a ++ c :: r /\ c ∉ a
 | [] => .inl (by simp)
 | b :: l => by
  by_cases e : b = c
  ·subst e; exact .inr ⟨[], l, rfl, by simp⟩
  ·rcases Z1hn c l with h | ⟨a, r, rfl, h⟩
   ·exact .inl (by simp [h, Ne.symm e])
   ·exact .inr ⟨b :: a, r, rfl, by simp [h, Ne.symm e]⟩
theorem Z1j5 {c : UInt8} {l : By} (h : c ∉ l) (j : Nat) (_ : j <= l.length) : Lib.occAt l [c] j = false := by
 cases hc : Lib.occAt l [c] j with
 | false => rfl
 | true =>
  have := Lib.occAt_head (t := []) rfl hc;exact absurd (List.mem_of_getElem? this) h
theorem Z1ig {c : UInt8} {l : By} (h : c ∉ l) : Lib.index l [c] = -1 := Lib.index_none (Z1j5 h)
theorem Z1j6 {c : UInt8} {a r : By} (h : c ∉ a) : Lib.index (a ++ c :: r) [c] = (a.length : Int) := by
 refine Lib.index_first (by simp) ?_ (fun j hj => ?_)
 ·rw [Lib.occAt_iff_take _ _ _ (by simp)]; simp
 ·rw [Lib.occAt_iff_take _ _ _ (by simp; omega)];have : ((a ++ c :: r).drop j).take [c].length = [a[j]] := by
   rw [List.drop_append_of_le_length (Nat.le_of_lt hj), List.drop_eq_getElem_cons hj]; rfl
  rw [this];have hne : a[j] ≠ c := fun e => h (e ▸ List.getElem_mem hj);simpa using hne
theorem Z1hv (c : UInt8) : ∀ (n : Nat) (l : By), l.length <= n -> Lib.splitK [c] 0 (Lib.count l [c]) l = Z1gn c l
 | n, l, hn => by
  rcases Z1hn c l with h | ⟨a, r, rfl, h⟩
  ·rw [Lib.count_miss (Z1ig h), Z1hi h]; rfl
  ·match n, hn with
   | 0, hn => simp at hn
   | n + 1, hn =>
    have hi := Z1j6 (r := r) h;rw [Lib.count_hit (by simp) hi, Nat.add_comm, Z1hj h];have hd : (a ++ c :: r).drop (a.length + [c].length) = r := by simp
    rw [hd];simp only [Lib.splitK, hi];rw [if_neg (by simp)];have ht : (a ++ c :: r).take ((a.length : Int).toNat + 0) = a := by simp
    have hd2 : (a ++ c :: r).drop ((a.length : Int).toNat + [c].length) = r := by simp
    rw [ht, hd2, Z1hv c n r (by simp at hn; omega)]
def bs (l : By) : ByteArray := ⟨l.toArray⟩
theorem Z1gy (l : By) : (bs l).data.toList = l := by simp [bs]
theorem bs_of (s : ByteArray) : bs s.data.toList = s := by cases s; simp [bs]
theorem Z1h9 (l : By) : (bs l).size = l.length := rfl
theorem Z1jp (a b : By) : bs a ++ bs b = bs (a ++ b) := by
 apply ByteArray.ext
 simp [bs]
theorem Z1it (c : UInt8) (l : By) : Lib.splitB (bs [c]) 0 (Lib.countB (bs l) (bs [c])) (bs l) = (Z1gn c l).map bs := by
 have h1 := Lib.splitB_data (bs [c]) 0 (Lib.countB (bs l) (bs [c])) (bs l);rw [Z1gy, Z1gy] at h1;have h2 : Lib.countB (bs l) (bs [c]) = Lib.count l [c] := by unfold Lib.countB; rw [Z1gy, Z1gy]
 rw [h2] at h1 ⊢;rw [Z1hv c l.length l (Nat.le_refl _)] at h1;rw [<- h1, List.map_map];have : (bs ∘ fun x : ByteArray => x.data.toList) = id := by funext x; exact bs_of x
 rw [this, List.map_id]
end Go.Txt
