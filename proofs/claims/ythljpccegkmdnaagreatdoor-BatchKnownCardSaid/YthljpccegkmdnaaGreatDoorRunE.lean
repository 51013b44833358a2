/- Part RunE of the proofs about the benches of the accordion maker: see the last text of the claim for what is proved. -/
import Derived.Orders
import Derived.OrdersIn
import Derived.RangeFuncRecord
import Derived.Test.YthljpccegkmdnaaGreatDoorRunD
set_option linter.unusedVariables false
set_option linter.unusedSimpArgs false
set_option linter.unnecessarySimpa false
set_option linter.constructorNameAsVariable false

namespace Go.Abs
open Go
section
variable {A : Ar} {T : TT} {K : D -> Prop}
theorem Zcc {x : Option D} (h : opt x K) : ∃ d, K d /\ opt x (fun y => y = d) := by
 unfold opt at *; cases x <;> first | exact h.elim | exact ⟨_, h, rfl⟩
theorem Zrc {t : TypeId} {d : D} (h : Zly A T t K d) : ∃ y, K y /\ Zly A T t (fun x => x = y) d := by
 unfold Zly at h
 repeat' (split at h)
 all_goals first
  | exact h.elim
  | exact ⟨_, h, by simp_all [Zly]⟩
theorem Zug {op : UnOp} {d : D} (h : unA A op K d) : ∃ y, K y /\ unA A op (fun x => x = y) d := by
 unfold unA at h
 repeat' (split at h)
 all_goals first
  | exact h.elim
  | exact ⟨_, h, by simp_all [unA]⟩
  | exact ⟨_, h.2, by simp_all [unA]⟩
theorem Zpj {s t : TypeId} {d : D} (h : Zeq A T s t K d) : ∃ y, K y /\ Zeq A T s t (fun x => x = y) d := by
 unfold Zeq at h
 repeat' (split at h)
 all_goals first
  | exact h.elim
  | exact ⟨_, h, by simp_all [Zeq]⟩
theorem Zrd {t : TypeId} {f : Nat} {d : D} (h : Zlq A T t f K d) : ∃ y, K y /\ Zlq A T t f (fun x => x = y) d := by
 unfold Zlq Zer at h
 repeat' (split at h)
 all_goals first
  | exact h.elim
  | exact ⟨_, h, by simp_all [Zlq, Zer]⟩
theorem Zpk {agg : Bool} {off n : Nat} {cs : List D} (h : Zds agg off n cs K) : ∃ y, K y /\ Zds agg off n cs (fun x => x = y) := by
 unfold Zds at h ⊢
 split at h
 ·split at h
  ·rename_i hb; exact ⟨_, h, rfl⟩
  ·exact h.elim
 ·split at h
  ·rename_i x hx; exact ⟨_, h, rfl⟩
  ·exact h.elim
theorem Zmi {t : TypeId} {f : Nat} {d : D} (h : Zbe T t f K d) : ∃ y, K y /\ Zbe T t f (fun x => x = y) d := by
 unfold Zbe at h
 repeat' (split at h)
 all_goals first
  | exact h.elim
  | (obtain ⟨y, h1, h2⟩ := Zpk h; exact ⟨y, h1, by simp only [Zbe, *]⟩)
theorem Zre {t : TypeId} {l : Bool} {a b : D} (h : Zlr A T t l K a b) : ∃ y, K y /\ Zlr A T t l (fun x => x = y) a b := by
 unfold Zlr Zes at h
 repeat' (split at h)
 all_goals first
  | exact h.elim
  | exact h.2.elim
  | exact ⟨_, h.2, by simp_all [Zlr, Zes]⟩
theorem Need.det {x : Option D} (h : Need x K) : ∃ d, K d /\ Need x (fun y => y = d) := let ⟨d, h1, h2⟩ := h.out; ⟨d, h2, ⟨d, h1, rfl⟩⟩
theorem Zmj {t : TypeId} {a b : D} (h : Z96 A T t K a b) : ∃ y, K y /\ Z96 A T t (fun x => x = y) a b := by
 unfold Z96 at h
 repeat' (split at h)
 all_goals first
  | exact h.elim
  | exact ⟨_, h.2, by simp_all [Z96]⟩
  | (obtain ⟨d, h1, h2⟩ := h.2.det; exact ⟨d, h1, by simp_all [Z96]⟩)
theorem Zrf {i : Nat} {d : D} (h : Zp6 i K d) : ∃ y, K y /\ Zp6 i (fun x => x = y) d := by
 unfold Zp6 at h
 split at h
 ·obtain ⟨d, h1, h2⟩ := Zcc h; exact ⟨d, h1, h2⟩
 ·exact h.elim
theorem Zpl {c a b : Option D} (h : Zjo K c a b) : ∃ y, K y /\ Zjo (fun x => x = y) c a b := by
 unfold Zjo at h
 split at h
 ·obtain ⟨d, h1, h2⟩ := Zcc h; exact ⟨d, h1, h2⟩
 ·obtain ⟨d, h1, h2⟩ := Zcc h; exact ⟨d, h1, h2⟩
 ·exact h.elim
theorem Zmk {mx : Bool} {k : IntKind} : ∀ {l : List (Option D)} {x : Int}, mm A mx k x K l -> ∃ y, K y /\ mm A mx k x (fun z => z = y) l
 | [], x, h => ⟨_, h, rfl⟩
 | some (.v (.int k' y)) :: r, x, h => by
  simp only [mm] at h ⊢
  split at h
  ·rename_i e
   simp only [e, if_true]
   split at h
   ·obtain ⟨d, h1, h2⟩ := Zmk h; exact ⟨d, h1, by simpa [e] using h2⟩
   ·obtain ⟨d, h1, h2⟩ := Zmk h; exact ⟨d, h1, by simpa [e] using h2⟩
  ·exact h.elim
 | none :: r, x, h => h.elim
theorem Znz {mx : Bool} {l : List (Option D)} (h : mmA A mx K l) : ∃ y, K y /\ mmA A mx (fun x => x = y) l := by
 unfold mmA at h
 split at h
 ·obtain ⟨d, h1, h2⟩ := Zmk h; exact ⟨d, h1, h2⟩
 ·exact h.elim
theorem Zrg {fn : Fn} {first : Array Operand} {caps : List (Option D)} (h : Zlz K fn first caps) : ∃ y, K y /\ Zlz (fun x => x = y) fn first caps := by
 unfold Zlz at h
 split at h
 ·exact ⟨_, h, by simp_all [Zlz]⟩
 ·exact h.elim
theorem Zrh {t : TypeId} {d : D} (h : Zm0 T t K d) : ∃ y, K y /\ Zm0 T t (fun x => x = y) d := by
 unfold Zm0 at h
 repeat' (split at h)
 all_goals first
  | exact h.elim
  | exact ⟨_, h, by simp_all [Zm0]⟩
theorem Zri {t : TypeId} {lo hi : Option (Option D)} {d : D} (h : Zjp A T t lo hi K d) : ∃ y, K y /\ Zjp A T t lo hi (fun x => x = y) d := by
 unfold Zjp at h
 repeat' (split at h)
 all_goals first
  | exact h.elim
  | exact ⟨_, h, by simp_all [Zjp]⟩
  | exact ⟨_, h.2, by simp_all [Zjp]⟩
theorem Zrj {t : TypeId} {parts : List (Nat × Option D)} (h : Zm1 T t parts K) : ∃ y, K y /\ Zm1 T t parts (fun x => x = y) := by
 unfold Zm1 at h
 repeat' (split at h)
 all_goals first
  | exact h.elim
  | exact ⟨_, h, by simp_all [Zm1]⟩
theorem Zrk {t : TypeId} {ok : Bool} {d : D} (h : Zm2 T t ok K d) : ∃ y, K y /\ Zm2 T t ok (fun x => x = y) d := by
 unfold Zm2 at h
 repeat' (split at h)
 all_goals first
  | exact h.elim
  | exact ⟨_, h, by simp_all [Zm2]⟩
theorem Zpm {t : TypeId} {lo : Option Operand} {hi : Option (Option D)} {mx : Option D} {d : D} (h : Zeu T t lo hi mx K d) : ∃ y, K y /\ Zeu T t lo hi mx (fun x => x = y) d := by
 unfold Zeu at h
 repeat' (split at h)
 all_goals first
  | exact h.elim
  | exact ⟨_, h, by unfold Zeu; simp only [*]⟩
theorem Zik {ok : Bool} {d : D} {b : Bool} (h : okA ok K d b) : ∃ y, K y /\ okA ok (fun x => x = y) d b := by
 cases ok <;> exact ⟨_, h, rfl⟩
theorem Zrl {A : Ar} {H : List Blk} {t : TypeId} {ok : Bool} {key m : D} (h : Zea A T H t ok K key m) : ∃ y, K y /\ Zea A T H t ok (fun x => x = y) key m := by
 unfold Zea at h
 split at h
 ·split at h
  ·rename_i h1
   obtain ⟨l, g1, g2⟩ := h.out;obtain ⟨y, k1, k2⟩ := Zik g2;exact ⟨y, k1, by simp only [Zea, h1]; exact ⟨l, g1, k2⟩⟩
  ·exact h.elim
 ·split at h
  ·rename_i h1 h2
   split at h
   ·rename_i h3
    obtain ⟨l, g1, g2⟩ := h.out;obtain ⟨d, g3, g4⟩ := g2.out;obtain ⟨y, k1, k2⟩ := Zik g4;exact ⟨y, k1, by simp only [Zea, h1, h2, h3]; exact ⟨l, g1, ⟨d, g3, k2⟩⟩⟩
   ·exact h.elim
  ·rename_i h1 h2
   split at h
   ·rename_i h3
    obtain ⟨l, g1, g2⟩ := h.out;obtain ⟨d, g3, g4⟩ := g2.out;obtain ⟨y, k1, k2⟩ := Zik g4;exact ⟨y, k1, by simp only [Zea, h1, h2, h3]; exact ⟨l, g1, ⟨d, g3, k2⟩⟩⟩
   ·exact h.elim
  ·exact h.elim
 ·exact h.elim
def Zrm : Option D -> Bool
 | some (.v (.slice none 0 0)) => false
 | _ => true
theorem Zrn {op : BinOp} {k : IntKind} {x y : Int} (h : Zi6 A op k x y K) : ∃ z, K z /\ Zi6 A op k x y (fun w => w = z) := by
 unfold Zi6 at h
 repeat' (split at h)
 all_goals first
  | exact h.elim
  | exact ⟨_, h, by simp_all [Zi6]⟩
  | exact ⟨_, h.2, by simp_all [Zi6]⟩
  | exact ⟨_, h.2.2, by simp_all [Zi6]⟩
theorem Zro {op : BinOp} {x y : ByteArray} (h : Zjk A op x y K) : ∃ z, K z /\ Zjk A op x y (fun w => w = z) := by
 unfold Zjk at h
 repeat' (split at h)
 all_goals first
  | exact h.elim
  | exact ⟨_, h, by simp_all [Zjk]⟩
  | exact ⟨_, h.2, by simp_all [Zjk]⟩
theorem Zo0 {op : BinOp} {b : Bool} (h : eqK op K b) : ∃ z, K z /\ eqK op (fun w => w = z) b := by
 unfold eqK at h
 repeat' (split at h)
 all_goals first
  | exact h.elim
  | exact ⟨_, h, by simp_all [eqK]⟩
theorem Zrp {op : BinOp} {t : TypeId} {a b : D} (hb : Zrm (some b) = true) (h : Zbd A T op t K a b) : ∃ y, K y /\ Zbd A T op t (fun x => x = y) a b := by
 unfold Zbd at h
 split at h
 ·split at h
  ·exact ⟨_, h.2, by simp_all [Zbd]⟩
  ·exact ⟨_, h.2, by simp_all [Zbd]⟩
  ·split at h
   ·rename_i e; subst e
    obtain ⟨z, h1, h2⟩ := Zrn h;exact ⟨z, h1, by simp_all [Zbd]⟩
   ·exact h.elim
 ·obtain ⟨z, h1, h2⟩ := Zro h;exact ⟨z, h1, by simpa only [Zbd] using h2⟩
 ·repeat' (split at h)
  all_goals first
   | exact h.elim
   | exact ⟨_, h, by simp_all [Zbd]⟩
 ·cases hb
 ·cases hb
 ·cases hb
 ·repeat' (split at h)
  all_goals first
   | exact h.elim
   | (obtain ⟨z, h1, h2⟩ := Zo0 h; exact ⟨z, h1, by simp_all [Zbd]⟩)
 ·split at h
  ·rename_i e he
   split at h
   ·rename_i n hf ha
    obtain ⟨a, b, rfl, rfl, la, lb, hk⟩ := h.out
    split at hk
    ·exact ⟨_, hk, by simp only [Zbd, he, hf, ha]; exact ⟨a, b, rfl, rfl, la, lb, rfl⟩⟩
    ·exact ⟨_, hk, by simp only [Zbd, he, hf, ha]; exact ⟨a, b, rfl, rfl, la, lb, rfl⟩⟩
    ·exact hk.elim
   ·exact h.elim
  ·exact h.elim
 ·exact h.elim
theorem Zcd {agg : Bool} {n off : Nat} {d : D} (h : ldD A agg n off K d) : ∃ y, K y /\ ldD A agg n off (fun x => x = y) d := by
 unfold ldD at h
 split at h
 ·split at h
  ·split at h
   ·rename_i hb; exact ⟨_, h, by simp only [ldD, hb]⟩
   ·exact h.elim
  ·split at h
   ·rename_i x hx; exact ⟨_, h, by simp only [ldD, hx]⟩
   ·exact h.elim
 ·split at h
  ·split at h
   ·exact ⟨_, h.2, h.1, rfl⟩
   ·exact h.elim
  ·obtain ⟨y, h1, h2⟩ := h.det; exact ⟨y, h1, h2⟩
 ·exact h.elim
 ·rename_i h1 h2 h3
  split at h
  ·exact h.elim
  ·split at h
   ·exact ⟨_, h, by
     cases d <;> first | exact rfl | exact absurd rfl (h1 _) | exact absurd rfl (h2 _) | exact absurd rfl h3⟩
   ·exact h.elim
theorem Zuh {agg : Bool} {off : Nat} {d : D} (h : ldS A agg off K d) : ∃ y, K y /\ ldS A agg off (fun x => x = y) d := by
 unfold ldS at h
 split at h
 ·split at h
  ·exact h.elim
  ·obtain ⟨y, h1, h2⟩ := h.det; exact ⟨y, h1, h2⟩
 ·split at h
  ·exact h.elim
  ·obtain ⟨y, h1, h2⟩ := h.det; exact ⟨y, h1, h2⟩
 ·exact h.elim
theorem Zui {H : List Blk} {agg : Bool} {n : Nat} {d : D} (h : ldP A H agg n K d) : ∃ y, K y /\ ldP A H agg n (fun x => x = y) d := by
 unfold ldP at h
 split at h
 ·split at h
  ·rename_i hb; obtain ⟨y, h1, h2⟩ := Zcd h; exact ⟨y, h1, by simp only [ldP, hb]; exact h2⟩
  ·exact h.elim
 ·split at h
  ·rename_i hb; obtain ⟨y, h1, h2⟩ := Zuh h; exact ⟨y, h1, by simp only [ldP, hb]; exact h2⟩
  ·exact h.elim
 ·split at h
  ·rename_i hb
   split at h
   ·rename_i hs
    obtain ⟨e, h1, h2⟩ := h.out;obtain ⟨y, h3, h4⟩ := Zcd h2;exact ⟨y, h3, by simp only [ldP, hb, hs]; exact ⟨e, h1, h4⟩⟩
   ·exact h.elim
  ·rename_i hb
   split at h
   ·rename_i hs
    obtain ⟨e, h1, h2⟩ := h.out;obtain ⟨y, h3, h4⟩ := Zcd h2;exact ⟨y, h3, by simp only [ldP, hb, hs]; exact ⟨e, h1, h4⟩⟩
   ·exact h.elim
  ·exact h.elim
 ·obtain ⟨e, h1, h2⟩ := h.out;obtain ⟨y, h3, h4⟩ := Zcd h2;exact ⟨y, h3, ⟨e, h1, h4⟩⟩
 ·obtain ⟨y, h3, h4⟩ := Zcd h;exact ⟨y, h3, h4⟩
 ·exact h.elim
def Zo1 (s : St) : Op -> Bool
 | .binOp _ _ _ y _ => Zrm (evo s.env y)
 | _ => true
theorem Zk4 {s : St} {op : Op} (hd : Zo1 s op = true) (h : Z1q A T s K op) : ∃ d, K d /\ Z1q A T s (fun x => x = d) op := by
 cases op <;> try exact h.elim
 case move x => exact Zcc h
 case assign x => exact Zcc h
 case pick c a b => exact Zpl h
 case load t a =>
  simp only [Z1q] at h
  split at h
  ·rename_i h1 h2; obtain ⟨y, g1, g2⟩ := Zui h; exact ⟨y, g1, by simp only [Z1q, h1, h2]; exact g2⟩
  ·exact h.elim
 case nilCheck x =>
  simp only [Z1q] at h
  split at h
  ·rename_i h1
   split at h
   ·rename_i h2; exact ⟨_, h, by simp only [Z1q, h1, h2]⟩
   ·exact h.elim
  ·exact h.elim
 case binOp op t x y yt =>
  simp only [Z1q] at h
  split at h
  ·rename_i h1 h2
   split at h
   ·rename_i e hl he
    split at h
    ·rename_i hkc
     obtain ⟨z, g1, g2⟩ := Zo0 h;exact ⟨z, g1, by simp only [Z1q, h1, h2, hl, he, hkc]; exact g2⟩
    ·exact h.elim
   ·exact h.elim
  ·rename_i hno h1 h2
   simp only [Zo1, h2] at hd;obtain ⟨z, g1, g2⟩ := Zrp hd h;refine ⟨z, g1, ?_⟩;simp only [Z1q];rw [h1, h2]
   split
   ·rename_i e1 e2; cases e1; cases e2; exact (hno rfl rfl).elim
   ·rename_i e1 e2; cases e1; cases e2; exact g2
   ·rename_i e1; exact (e1 _ _ rfl rfl).elim
  ·exact h.elim
 case lookup t x i ok =>
  simp only [Z1q] at h
  split at h
  ·rename_i h1 h2; obtain ⟨y, g1, g2⟩ := Zrl h; exact ⟨y, g1, by simp only [Z1q, h1, h2]; exact g2⟩
  ·exact h.elim
 case unOp op t x =>
  simp only [Z1q] at h
  split at h
  ·rename_i h1; obtain ⟨y, g1, g2⟩ := Zug h; exact ⟨y, g1, by simp only [Z1q, h1]; exact g2⟩
  ·exact h.elim
 case convert a b x =>
  simp only [Z1q] at h
  split at h
  ·rename_i h1; obtain ⟨y, g1, g2⟩ := Zpj h; exact ⟨y, g1, by simp only [Z1q, h1]; exact g2⟩
  ·exact h.elim
 case makeInterface t x =>
  simp only [Z1q] at h
  split at h
  ·rename_i h1; obtain ⟨y, g1, g2⟩ := Zrh h; exact ⟨y, g1, by simp only [Z1q, h1]; exact g2⟩
  ·exact h.elim
 case makeFunc fn first caps => exact Zrg h
 case build t parts => exact Zrj h
 case fieldAddr t x f =>
  simp only [Z1q] at h
  split at h
  ·rename_i h1; obtain ⟨y, g1, g2⟩ := Zrd h; exact ⟨y, g1, by simp only [Z1q, h1]; exact g2⟩
  ·exact h.elim
 case field t x f =>
  simp only [Z1q] at h
  split at h
  ·rename_i h1; obtain ⟨y, g1, g2⟩ := Zmi h; exact ⟨y, g1, by simp only [Z1q, h1]; exact g2⟩
  ·exact h.elim
 case indexAddr t x i =>
  simp only [Z1q] at h
  split at h
  ·rename_i h1 h2; obtain ⟨y, g1, g2⟩ := Zre h; exact ⟨y, g1, by simp only [Z1q, h1, h2]; exact g2⟩
  ·exact h.elim
 case index t x i =>
  simp only [Z1q] at h
  split at h
  ·rename_i h1 h2; obtain ⟨y, g1, g2⟩ := Zmj h; exact ⟨y, g1, by simp only [Z1q, h1, h2]; exact g2⟩
  ·exact h.elim
 case extract x i =>
  simp only [Z1q] at h
  split at h
  ·rename_i h1; obtain ⟨y, g1, g2⟩ := Zrf h; exact ⟨y, g1, by simp only [Z1q, h1]; exact g2⟩
  ·exact h.elim
 case slice t x lo hi mx =>
  cases mx with
  | some m =>
   simp only [Z1q] at h
   split at h
   ·rename_i h1; obtain ⟨y, g1, g2⟩ := Zpm h; exact ⟨y, g1, by simp only [Z1q, h1]; exact g2⟩
   ·exact h.elim
  | none =>
   simp only [Z1q] at h
   split at h
   ·rename_i h1; obtain ⟨y, g1, g2⟩ := Zri h; exact ⟨y, g1, by simp only [Z1q, h1]; exact g2⟩
   ·exact h.elim
 case typeAssert x a b ok =>
  simp only [Z1q] at h
  split at h
  ·rename_i h1; obtain ⟨y, g1, g2⟩ := Zrk h; exact ⟨y, g1, by simp only [Z1q, h1]; exact g2⟩
  ·exact h.elim
 case call c =>
  obtain ⟨callee, args, argTypes⟩ := c
  cases callee with
  | value f => exact h.elim
  | invoke r m => exact h.elim
  | builtin b =>
   cases b <;> try exact h.elim
   case len =>
    simp only [Z1q] at h
    split at h
    ·rename_i h1 h2
     split at h
     ·rename_i h3; obtain ⟨y, g1, g2⟩ := Zrc h; exact ⟨y, g1, by simp only [Z1q, h1, h2, h3]; exact g2⟩
     ·exact h.elim
    ·exact h.elim
   case max => exact Znz h
   case min => exact Znz h
end
end Go.Abs

namespace Go.Abs
open Go
def rE (env : List (Nat × D)) : List Nat -> List (Nat × D)
 | [] => []
 | t :: r => (match Z1c env t with | some d => (t, d) :: rE env r | none => rE env r)
theorem Zil {env : List (Nat × D)} : ∀ {ts : List Nat} {t : Nat} {d : D}, Z1c (rE env ts) t = some d -> Z1c env t = some d /\ t ∈ ts
 | [], t, d, h => by cases h
 | t0 :: r, t, d, h => by
  simp only [rE] at h
  split at h
  ·rename_i d0 hd0
   simp only [Z1c] at h
   split at h
   ·rename_i e; subst e; cases h; exact ⟨hd0, by simp⟩
   ·obtain ⟨h1, h2⟩ := Zil h; exact ⟨h1, by simp [h2]⟩
  ·obtain ⟨h1, h2⟩ := Zil h; exact ⟨h1, by simp [h2]⟩
theorem Zk5 {env env' : List (Nat × D)} : ∀ {ts : List Nat}, (∀ t ∈ ts, Z1c env' t = Z1c env t) -> rE env' ts = rE env ts
 | [], _ => rfl
 | t :: r, h => by
  have h1 := h t (by simp);have h2 := Zk5 (ts := r) (fun t ht => h t (by simp [ht]));simp only [rE, h1, h2]
def St.only (s : St) (ts : List Nat) : St := { s with env := rE s.env ts }
def ons (o : Oper) : List Nat := (o.after.toList.filter fun e => Region.binds .any e).map (·.on)
def Z9i (A : Ar) (T : TT) (ops : Array Oper) (s : St) (o : Oper) (K : D -> Prop) : Prop := Zh ops s o (fun s => Z1q A T s K o.op) (fun _ => K (.tup []))
inductive PK where
 | val (d : D)
 | alc (k : Nat) (x : Blk) (d : D)
def PK.d : PK -> D
 | .val d => d
 | .alc _ _ d => d
structure POk (A : Ar) (T : TT) (ops : Array Oper) (s : St) (u : Nat × PK) : Prop where
 out : ∃ o, ops[u.1]? = some o /\ Z36 s.nt o.dst = true /\ (∀ t, o.dst = some t -> Z1c s.env t = some u.2.d) /\ (match u.2 with
  | .val d => Z9i A T ops (s.only (o.looksAt ops)) o (fun x => x = d)
  | .alc k x d => Zh ops (s.only (o.looksAt ops)) o (fun s' => Z5g A T s' (fun y mk => y = x /\ mk k = d) o.op) (fun _ => False) /\ Z1m s.H k = some x /\ BFr x)
structure LooksOk (ops : Array Oper) (o : Oper) (pend : List (Nat × PK)) : Prop where
 out : ∀ u ∈ pend, ∀ o' t, ops[u.1]? = some o' -> o'.dst = some t -> t ∈ o.looksAt ops -> u.1 ∈ ons o
structure WritesOk (ops : Array Oper) (o : Oper) (pend : List (Nat × PK)) : Prop where
 out : ∀ u ∈ pend, ∀ o' t, ops[u.1]? = some o' -> o.dst = some t -> o'.dst ≠ some t /\ t ∉ o'.looksAt ops
inductive DrawA (P : Program) (T : TT) (r : Option Nat) (m : Nat) (ops : Array Oper) (Q : AX -> St -> Prop) : List Nat -> List (Nat × PK) -> St -> Prop
 | done {pend : List (Nat × PK)} {s : St} (h : Q .normal s) : DrawA P T r m ops Q [] pend s
 | val {i : Nat} {L : List Nat} {pend : List (Nat × PK)} {s : St} {o : Oper} {d : D} (ho : ops[i]? = some o) (hd : Z36 s.nt o.dst = true) (hl : LooksOk ops o pend) (hw : WritesOk ops o pend) (hs : ∀ t, o.dst = some t -> t ∉ o.looksAt ops)
   (hy : Z9i ar T ops (s.only (o.looksAt ops)) o (fun x => x = d)) (h : DrawA P T r m ops Q L ((i, .val d) :: pend) (s.step o.dst d s.H s.dfs)) : DrawA P T r m ops Q (i :: L) pend s
 | alc {i : Nat} {L : List Nat} {pend : List (Nat × PK)} {s : St} {o : Oper} {x : Blk} {d : D} (ho : ops[i]? = some o) (hd : Z36 s.nt o.dst = true) (hl : LooksOk ops o pend) (hw : WritesOk ops o pend) (hs : ∀ t, o.dst = some t -> t ∉ o.looksAt ops) (hb : BFr x)
   (hy : Zh ops (s.only (o.looksAt ops)) o (fun s' => Z5g ar T s' (fun y mk => y = x /\ mk s.H.length = d) o.op) (fun _ => False))
   (hp : ∀ u ∈ pend, POk ar T ops s u -> POk ar T ops (s.step o.dst d (s.H ++ [x]) s.dfs) u)
   (h : DrawA P T r m ops Q L ((i, .alc s.H.length x d) :: pend) (s.step o.dst d (s.H ++ [x]) s.dfs)) : DrawA P T r m ops Q (i :: L) pend s
 | eff {i : Nat} {L : List Nat} {pend : List (Nat × PK)} {s : St} {o : Oper} {K : D -> List Blk -> List AD -> Prop} (pend' : List (Nat × PK)) (ho : ops[i]? = some o) (hd : Z36 s.nt o.dst = true) (hl : LooksOk ops o pend) (hw : WritesOk ops o pend')
   (hpp : ∀ u ∈ pend, u ∈ pend' ∨ u.1 ∈ ons o) (hr : ∀ i' ∈ L, ∀ o', ops[i']? = some o' -> ∃ e ∈ ons o', e = i ∨ e ∈ L)
   (hk : Zh ops (s.only (o.looksAt ops)) o (fun s' => OpA P r o s' K (fun d H' => ∀ e, Q (.pan d) { env := e, H := H', nt := s.nt, dfs := s.dfs })) (fun _ => K (.tup []) s.H s.dfs))
   (hpin : ∀ d H' ds, K d H' ds -> ∀ u ∈ pend', POk ar T ops s u -> POk ar T ops (s.step o.dst d H' ds) u)
   (h : ∀ d H' ds, K d H' ds -> DrawA P T r m ops Q L pend' (s.step o.dst d H' ds)) : DrawA P T r m ops Q (i :: L) pend s
 | two {i j : Nat} {L : List Nat} {pend : List (Nat × PK)} {s : St} {o o2 : Oper} {K K2 : D -> List Blk -> List AD -> Prop} (p p2 : List (Nat × PK)) (ho : ops[i]? = some o) (ho2 : ops[j]? = some o2) (hd : Z36 s.nt o.dst = true) (hd2 : Z36 s.nt o2.dst = true) (hl : LooksOk ops o pend) (hl2 : LooksOk ops o2 pend)
   (hw : WritesOk ops o p) (hw2 : WritesOk ops o2 p2) (hpp : ∀ u ∈ pend, u ∈ p ∨ u.1 ∈ ons o) (hpp2 : ∀ u ∈ pend, u ∈ p2 ∨ u.1 ∈ ons o2) (hr : ∀ i' ∈ L, ∀ o', ops[i']? = some o' -> ∃ e ∈ ons o', e = i ∨ e = j ∨ e ∈ L)
   (hk : Zh ops (s.only (o.looksAt ops)) o (fun s' => OpA P r o s' K (fun d H' => ∀ e, Q (.pan d) { env := e, H := H', nt := s.nt, dfs := s.dfs })) (fun _ => K (.tup []) s.H s.dfs))
   (hk2 : Zh ops (s.only (o2.looksAt ops)) o2 (fun s' => OpA P r o2 s' K2 (fun d H' => ∀ e, Q (.pan d) { env := e, H := H', nt := s.nt, dfs := s.dfs })) (fun _ => K2 (.tup []) s.H s.dfs))
   (hpin : ∀ d H' ds, K d H' ds -> ∀ u ∈ p, POk ar T ops s u -> POk ar T ops (s.step o.dst d H' ds) u) (hpin2 : ∀ d H' ds, K2 d H' ds -> ∀ u ∈ p2, POk ar T ops s u -> POk ar T ops (s.step o2.dst d H' ds) u)
   (h : ∀ d H' ds, K d H' ds -> DrawA P T r m ops Q (j :: L) p (s.step o.dst d H' ds)) (h2 : ∀ d H' ds, K2 d H' ds -> DrawA P T r m ops Q (i :: L) p2 (s.step o2.dst d H' ds)) : DrawA P T r m ops Q (i :: j :: L) pend s
end Go.Abs

namespace Go.Abs
open Go
section
variable {P : Program} {T : TT} {r : Option Nat} {m : Nat} {ops : Array Oper} {Q : AX -> St -> Prop}
theorem Z3x {Fe : Fence} {n : Nat} {q q' : Exit -> Act -> World -> Prop} (hq : ∀ e a w, q e a w -> q' e a w) : ∀ (fuel : Nat) (listed : Array Bool) (a : Act) (w : World), wpAnyIn Fe n P .any ops q fuel listed a w -> wpAnyIn Fe n P .any ops q' fuel listed a w
 | 0, listed, a, w, h => ⟨h.1, hq _ _ _ h.2⟩
 | fuel + 1, listed, a, w, h => ⟨fun e => hq _ _ _ (h.1 e), fun i hi => by
  have h2 := h.2 i hi
  unfold wpOpIn at h2 ⊢
  split
  ·rename_i ho; rw [ho] at h2; exact Z3x hq fuel _ _ _ h2
  ·rename_i o ho
   rw [ho] at h2
   simp only at h2
   split
   ·rename_i hw; rw [if_pos hw] at h2; exact ⟨h2.1, Zgt (Z3x hq fuel _) hq h2.2⟩
   ·rename_i hw; rw [if_neg hw] at h2; exact ⟨h2.1, Z3x hq fuel _ _ _ h2.2⟩⟩
structure RD (T : TT) (m : Nat) (ops : Array Oper) (F : Fz) (μ : Mu) (s : St) (L : List Nat) (und : List (Nat × PK)) (listed : Array Bool) (a : Act) (w : World) : Prop where
 hr : HR F μ s.H w
 env : ∀ t d, Z1c s.env t = some d -> (∀ u ∈ und, ∀ o, ops[u.1]? = some o -> o.dst ≠ some t) -> ∃ v, a.tmps[t]? = some v /\ VR F μ d v
 nt : a.tmps.size = s.nt
 dfs : ADR F μ s.H s.dfs a.defers
 len : m <= s.H.length
 size : listed.size = ops.size
 opn : ∀ (i : Nat), listed[i]? = some false ↔ (i ∈ L ∨ ∃ u ∈ und, u.1 = i)
 nd : (L ++ und.map (·.1)).Nodup
 ok : ∀ u ∈ und, POk ar T ops s u
 cl : ∀ u ∈ und, ∀ u' ∈ und, ∀ o o' t, ops[u.1]? = some o -> ops[u'.1]? = some o' -> o'.dst = some t -> t ∈ o.looksAt ops -> u'.1 ∈ ons o
 ds : ∀ u ∈ und, ∀ u' ∈ und, u.1 ≠ u'.1 -> ∀ o o' t, ops[u.1]? = some o -> ops[u'.1]? = some o' -> o.dst = some t -> o'.dst ≠ some t
 pr : ∀ u ∈ und, ∀ k x d, u.2 = .alc k x d -> μ k = none /\ m <= k
 ks : ∀ u ∈ und, ∀ u' ∈ und, ∀ k x d x' d', u.2 = .alc k x d -> u'.2 = .alc k x' d' -> u.1 = u'.1
def Z3p (und : List (Nat × PK)) (i : Nat) : List (Nat × PK) := und.filter fun u => !(Nat.beq u.1 i)
theorem Z1x {und : List (Nat × PK)} {i : Nat} {u : Nat × PK} : u ∈ Z3p und i ↔ u ∈ und /\ u.1 ≠ i := by
 unfold Z3p;rw [List.mem_filter];refine and_congr_right fun _ => ?_;constructor
 ·intro h e; subst e; simp at h
 ·intro h
  cases hb : Nat.beq u.1 i with
  | false => rfl
  | true => exact absurd (Nat.eq_of_beq_eq_true hb) h
theorem Z6k : ∀ {und : List (Nat × PK)} {i : Nat}, (und.map (·.1)).Nodup -> i ∈ und.map (·.1) -> (Z3p und i).length + 1 = und.length
 | [], i, _, h => by simp at h
 | u :: und, i, hn, h => by
  simp only [List.map_cons, List.nodup_cons] at hn
  by_cases e : u.1 = i
  ·have : Z3p (u :: und) i = und := by
    unfold Z3p;rw [List.filter_cons];have hb : (!(Nat.beq u.1 i)) = false := by rw [e, Nat.beq_refl]; rfl
    rw [hb];simp only [Bool.false_eq_true, if_false];rw [List.filter_eq_self];intro x hx
    cases hb : Nat.beq x.1 i with
    | false => rfl
    | true => exact absurd (List.mem_map.2 ⟨x, hx, (Nat.eq_of_beq_eq_true hb).trans e.symm⟩) hn.1
   rw [this]; rfl
  ·have hb : (!(Nat.beq u.1 i)) = true := by
    cases hb : Nat.beq u.1 i with
    | false => rfl
    | true => exact absurd (Nat.eq_of_beq_eq_true hb) e
   have h2 : i ∈ und.map (·.1) := by
    simp only [List.map_cons, List.mem_cons] at h;exact h.resolve_left (fun e' => e e'.symm)
   have := Z6k hn.2 h2;unfold Z3p at this ⊢;rw [List.filter_cons, hb];simp only [if_true, List.length_cons];omega
theorem Zml {und : List (Nat × PK)} {i : Nat} : (Z3p und i).map (·.1) = (und.map (·.1)).filter fun j => !(Nat.beq j i) := by
 unfold Z3p; rw [List.filter_map]; rfl
variable {F : Fz} {μ : Mu} {s : St} {L : List Nat} {und : List (Nat × PK)} {listed : Array Bool} {a : Act} {w : World}
theorem RD.pre (h : RD T m ops F μ s L und listed a w) {i : Nat} {o : Oper} (ho : ops[i]? = some o) (hi : i ∈ Region.ready .any ops listed) : ∀ e ∈ ons o, ¬ (e ∈ L ∨ ∃ u ∈ und, u.1 = e) := fun e he hop => by
 obtain ⟨-, o', ho', hall⟩ := mem_ready.1 hi;rw [ho] at ho'; cases ho';unfold ons at he;obtain ⟨ed, hed, rfl⟩ := List.mem_map.1 he;obtain ⟨hed, hb⟩ := List.mem_filter.1 hed;have h1 := hall ed (by simpa using hed) hb;have h2 := (h.opn ed.on).2 hop;rw [Array.getD_eq_getD_getElem?, h2] at h1
 cases h1
theorem RD.open_of_ready (h : RD T m ops F μ s L und listed a w) {i : Nat} (hi : i ∈ Region.ready .any ops listed) : i ∈ L ∨ ∃ u ∈ und, u.1 = i := by
 obtain ⟨h1, o, ho, -⟩ := mem_ready.1 hi;have hlt : i < listed.size := by rw [h.size]; exact (Array.getElem?_eq_some_iff.1 ho).1
 rw [Array.getD_eq_getD_getElem?, Array.getElem?_eq_getElem hlt] at h1;exact (h.opn i).1 (by rw [Array.getElem?_eq_getElem hlt]; simpa using h1)
theorem RD.progress (h : RD T m ops F μ s L und listed a w) (hE : ∀ (i : Nat) (o : Oper), ops[i]? = some o -> ∀ e ∈ ons o, e < i) (hne : ∃ i, i ∈ L ∨ ∃ u ∈ und, u.1 = i) : Region.ready .any ops listed ≠ [] := by
 obtain ⟨i, hi, hmin⟩ := Za7 hne;have h0 := (h.opn i).2 hi;have hlt : i < ops.size := by rw [<- h.size]; exact (Array.getElem?_eq_some_iff.1 h0).1
 intro hnil;have : i ∈ Region.ready .any ops listed := by
  refine mem_ready.2 ⟨by rw [Array.getD_eq_getD_getElem?, h0]; rfl, ops[i], Array.getElem?_eq_getElem hlt, fun e he hb => ?_⟩;have hl := hE i _ (Array.getElem?_eq_getElem hlt) e.on (List.mem_map.2 ⟨e, List.mem_filter.2 ⟨by simpa using he, hb⟩, rfl⟩);have hel : e.on < listed.size := by rw [h.size]; omega
  rw [Array.getD_eq_getD_getElem?, Array.getElem?_eq_getElem hel]
  cases hb2 : listed[e.on] with
  | true => rfl
  | false =>
   have := hmin e.on ((h.opn e.on).1 (by rw [Array.getElem?_eq_getElem hel, hb2]));omega
 rw [hnil] at this
 cases this
theorem RD.er (h : RD T m ops F μ s L und listed a w) {i : Nat} {o : Oper} (ho : ops[i]? = some o) (hi : i ∈ Region.ready .any ops listed)
  (hc : ∀ u' ∈ und, ∀ o' t, ops[u'.1]? = some o' -> o'.dst = some t -> t ∈ o.looksAt ops -> u'.1 ∈ ons o) : ER F μ (s.only (o.looksAt ops)) a :=
 ⟨fun t d ht => by
  obtain ⟨h1, h2⟩ := Zil ht
  exact h.env t d h1 fun u' hu' o' ho' hd => h.pre ho hi _ (hc u' hu' o' t ho' hd h2) (.inr ⟨u', hu', rfl⟩), h.nt, h.dfs⟩
theorem Zrq (h : RD T m ops F μ s L und listed a w) {u : Nat × PK} (hu : u ∈ und) : ∀ (i : Nat), (listed.setIfInBounds u.1 true)[i]? = some false ↔ (i ∈ L ∨ ∃ x ∈ Z3p und u.1, x.1 = i) := fun i => by
 have hnd := h.nd;rw [List.nodup_append] at hnd;rw [Array.getElem?_setIfInBounds]
 by_cases e : u.1 = i
 ·subst e;rw [if_pos rfl];constructor
  ·intro hh; split at hh <;> cases hh
  ·rintro (hL | ⟨x, hx, hxe⟩)
   ·exact absurd rfl (hnd.2.2 _ hL _ (List.mem_map.2 ⟨u, hu, rfl⟩))
   ·exact absurd hxe (Z1x.1 hx).2
 ·rw [if_neg e, h.opn i];refine or_congr_right ⟨fun ⟨x, hx, hxe⟩ => ⟨x, Z1x.2 ⟨hx, by rw [hxe]; exact fun e' => e e'.symm⟩, hxe⟩, fun ⟨x, hx, hxe⟩ => ⟨x, (Z1x.1 hx).1, hxe⟩⟩
theorem Zuj (h : RD T m ops F μ s L und listed a w) (i : Nat) : (L ++ (Z3p und i).map (·.1)).Nodup := by
 have hnd := h.nd;rw [List.nodup_append] at hnd ⊢;refine ⟨hnd.1, by rw [Zml]; exact hnd.2.1.sublist List.filter_sublist, fun x hx y hy => ?_⟩;obtain ⟨z, hz, rfl⟩ := List.mem_map.1 hy;exact hnd.2.2 x hx _ (List.mem_map.2 ⟨z, (Z1x.1 hz).1, rfl⟩)
end
end Go.Abs

namespace Go.Abs
open Go
section
variable {P : Program} {T : TT} {r : Option Nat} {m : Nat} {ops : Array Oper} {Q : AX -> St -> Prop}
variable {F : Fz} {μ : Mu} {s : St} {L : List Nat} {und : List (Nat × PK)} {listed : Array Bool} {a : Act} {w : World}
theorem Zo2 {a : Act} {dst : Option Nat} {v : Value} (t : Nat) : (a.put dst v).tmps[t]? = if dst = some t /\ t < a.tmps.size then some v else a.tmps[t]? := by
 cases dst with
 | none => simp [Act.put]
 | some t0 =>
  simp only [Act.put, Array.getElem?_setIfInBounds]
  by_cases e : t0 = t
  ·subst e
   by_cases hl : t0 < a.tmps.size
   ·simp [hl]
   ·simp [hl]
  ·simp [e]
theorem Zk6 {a : Act} {dst : Option Nat} {v : Value} : (a.put dst v).tmps.size = a.tmps.size := by cases dst <;> simp [Act.put]
theorem Zo3 {a : Act} {dst : Option Nat} {v : Value} : (a.put dst v).defers = a.defers := by cases dst <;> rfl
theorem Zrr {n : Nat} {dst : Option Nat} {t : Nat} (h : Z36 n dst = true) (e : dst = some t) : t < n := by subst e; exact Nat.le_of_ble_eq_true h
theorem Zfg (hT : TOK P T) (h : RD T m ops F μ s L und listed a w) {u : Nat × PK} (hu : u ∈ und) (hi : u.1 ∈ Region.ready .any ops listed)
  (IH : ∀ (F : Fz) (μ : Mu) (listed : Array Bool) (a : Act) (w : World), RD T m ops F μ s L (Z3p und u.1) listed a w -> wpAnyIn (Fc r) 0 P .any ops (Z4f F μ s.H w m Q) (L.length + (Z3p und u.1).length) listed a w) :
  wpOpIn (Fc r) 0 P ops (Z4f F μ s.H w m Q) u.1 (wpAnyIn (Fc r) 0 P .any ops (Z4f F μ s.H w m Q) (L.length + (Z3p und u.1).length) (listed.setIfInBounds u.1 true)) a w := by
 obtain ⟨o, ho, hdk, hdst, hm⟩ := (h.ok u hu).out;have er := h.er ho hi (fun u' hu' o' t h1 h2 h3 => h.cl u hu u' hu' o o' t ho h1 h2 h3);have nextE : ∀ (μ' : Mu) (w' : World) (v : Value), (∀ k x, μ k = some x -> μ' k = some x) -> VR F μ' u.2.d v -> ∀ t d, Z1c s.env t = some d -> (∀ u' ∈ Z3p und u.1, ∀ o', ops[u'.1]? = some o' -> o'.dst ≠ some t) -> ∃ v', (a.put o.dst v).tmps[t]? = some v' /\ VR F μ' d v' := fun μ' w' v hmono hv t d ht hun => by
  rw [Zo2]
  by_cases e : o.dst = some t
  ·have := hdst t e;rw [ht] at this; cases this;exact ⟨v, by rw [if_pos ⟨e, by rw [h.nt]; exact Zrr hdk e⟩], hv⟩
  ·rw [if_neg (fun hh => e hh.1)];obtain ⟨v', h1, h2⟩ := h.env t d ht fun u' hu' o' ho' => by
    by_cases e' : u'.1 = u.1
    ·rw [e', ho] at ho'; cases ho'; exact e
    ·exact hun u' (Z1x.2 ⟨hu', e'⟩) o' ho'
   exact ⟨v', h1, h2.mono (fun _ _ _ e => e) hmono⟩
 have sz : (listed.setIfInBounds u.1 true).size = ops.size := by rw [Array.size_setIfInBounds]; exact h.size
 have mk : ∀ (μ' : Mu) (w' : World) (v : Value), HR F μ' s.H w' -> (∀ k x, μ k = some x -> μ' k = some x) -> (∀ k c, μ.inn k c -> μ'.inn k c) -> VR F μ' u.2.d v -> (∀ u' ∈ Z3p und u.1, ∀ k x d, u'.2 = .alc k x d -> μ' k = none /\ m <= k) -> RD T m ops F μ' s L (Z3p und u.1) (listed.setIfInBounds u.1 true) (a.put o.dst v) w' := fun μ' w' v h1 h2 hi h3 h4 =>
  ⟨h1, nextE μ' w' v h2 h3, by rw [Zk6]; exact h.nt, by rw [Zo3]; exact h.dfs.mono (fun _ _ _ e => e) h2 (fun k hk => ⟨hk, hi k⟩), h.len, sz, Zrq h hu, Zuj h _, fun u' hu' => h.ok u' (Z1x.1 hu').1,
   fun u1 h1 u2 h2 => h.cl u1 (Z1x.1 h1).1 u2 (Z1x.1 h2).1, fun u1 h1 u2 h2 => h.ds u1 (Z1x.1 h1).1 u2 (Z1x.1 h2).1, h4, fun u1 h1 u2 h2 => h.ks u1 (Z1x.1 h1).1 u2 (Z1x.1 h2).1⟩
 have same : ∀ v, VR F μ u.2.d v -> RD T m ops F μ s L (Z3p und u.1) (listed.setIfInBounds u.1 true) (a.put o.dst v) w := fun v hv =>
  mk μ w v h.hr (fun _ _ e => e) (fun _ _ e => e) hv fun u' hu' k x d e => h.pr u' (Z1x.1 hu').1 k x d e
 unfold wpOpIn;rw [ho];simp only;obtain ⟨i, pk⟩ := u
 cases pk with
 | val d =>
  simp only at hm;obtain ⟨e, he, hc⟩ := Z4m hm er;have er' : ER F μ { s.only (o.looksAt ops) with env := e } a := ⟨fun t d ht => er.env t d (he t d ht), er.nt, er.dfs⟩;rcases hc with ⟨hw, hk⟩ | ⟨hw, hk⟩
  ·rw [if_pos hw];obtain ⟨g1, d', v, g2, g3, g4⟩ := Zez (s := { s.only (o.looksAt ops) with env := e }) hT h.hr er' hk;refine ⟨fun _ _ => trivial, ?_⟩;rw [Oper.semAt_eq _ a.eval o g1, g2, Oper.uponIn_value];subst g4;exact IH F μ _ _ w (same v g3)
  ·rw [if_neg (by rw [hw]; simp)];refine ⟨fun _ _ => trivial, IH F μ _ _ w (same undef ?_)⟩;show VR F μ d undef;rw [<- hk]; exact Z5h
 | alc k x d =>
  obtain ⟨hm1, hm2, hm3⟩ := hm;obtain ⟨e, he, hc⟩ := Z4m hm1 er;have er' : ER F μ { s.only (o.looksAt ops) with env := e } a := ⟨fun t d ht => er.env t d (he t d ht), er.nt, er.dfs⟩;rcases hc with ⟨hw, hk⟩ | ⟨hw, hk⟩
  ·rw [if_pos hw];obtain ⟨g1, x', mk', y, ⟨hbf, sz', es, c, t, v, q1, q2, q3, q4, q5⟩, g3, g4, g5⟩ := Zf2 (w := w) (μ := μ) hT er' hk;subst g4;refine ⟨fun _ _ => trivial, ?_⟩;rw [Oper.semAt_eq _ a.eval o g1, g3, Sem.run_bind, q2];simp only [Result.andThen_ok, Sem.run_pure, Oper.uponIn_value];obtain ⟨hk0, hkm⟩ := h.pr _ hu k x' d rfl;rw [Z1u] at hm2;have hklt := (List.getElem?_eq_some_iff.1 hm2).1;obtain ⟨r1, r2, r3⟩ := Zji h.hr hk0 (Nat.le_of_lt hklt) hbf q1 q3 q4 t;have hset : setB s.H k x' = s.H := by
    unfold setB;rw [if_pos hklt];have := (List.getElem?_eq_some_iff.1 hm2).2;rw [<- this]; exact List.set_getElem_self hklt
   rw [hset] at r1 r2;have hv : VR F (Z4v μ k (some (w.heap.size, c.size))) d v := by rw [<- g5]; exact q5 k _ (Z2f _ _ _)
   have hrd := mk _ _ v r1 r3 (fun _ _ e => e) hv fun u' hu' k' x1 d1 e1 => by
    have h2 := h.pr u' (Z1x.1 hu').1 k' x1 d1 e1;refine ⟨?_, h2.2⟩;rw [Z2k]
    ·exact h2.1
    ·intro e2; subst e2;exact (Z1x.1 hu').2 (h.ks u' (Z1x.1 hu').1 _ hu k' x1 d1 x' d e1 rfl)
   exact Z3x (fun _ _ _ hp => hp.trans r2 ⟨fun j hj => by rw [Z2k _ (by omega)], fun _ _ hk => ⟨hk, fun _ e => e⟩⟩) _ _ _ _ (IH F _ _ _ _ hrd)
  ·exact hk.elim
end
end Go.Abs

namespace Go.Abs
open Go
section
variable {P : Program} {T : TT} {r : Option Nat} {m : Nat} {ops : Array Oper} {Q : AX -> St -> Prop}
variable {F : Fz} {μ : Mu} {s : St} {L : List Nat} {und pend : List (Nat × PK)} {listed : Array Bool} {a : Act} {w : World}
theorem Zmm {H : List Blk} (h : HR F μ H w) {x : Blk} (hb : BFr x) (hno : x.obj = none) : HR F μ (H ++ [x]) w /\ Post F μ H w F μ (H ++ [x]) w := by
 have hn : μ H.length = none := h.dom _ (Nat.le_refl _);have get : ∀ k, k ≠ H.length -> (H ++ [x])[k]? = H[k]? := fun k hk => by
  by_cases hlt : k < H.length
  ·rw [List.getElem?_append_left hlt]
  ·rw [List.getElem?_eq_none (by simp; omega), List.getElem?_eq_none (by omega)]
 have nf : ∀ b, ¬ Z40 μ H.length b := fun b hf => by
  rcases hf with ⟨m, hm⟩ | hi
  ·rw [hn] at hm; cases hm
  ·exact h.non _ hn b hi
 have := Z5e (μ' := μ) (w' := w) (H' := H ++ [x]) (fun j => j = H.length) h (by simp) get (fun _ _ => rfl) (fun _ _ _ => Iff.rfl) (fun _ _ _ e => e) (Nat.le_refl _) rfl rfl rfl (fun _ _ _ => rfl)
  (fun k b hk _ hf => by subst hk; exact absurd hf (nf b)) (fun k1 k2 b h1 h2 _ _ _ _ => h1.trans h2.symm) (fun k hk _ => by subst hk; exact hn) (fun _ k sz es hk _ hne => by subst hk; exact absurd hn hne)
  (fun k y hk _ b => by subst hk; exact h.non _ hn b) (fun _ k y hk hy _ => by subst hk; rw [Z19 (x := x) (by simp), hno] at hy; cases hy) (fun k hk _ => by subst hk; exact h.non _ hn) (fun k y hk hy => by
   subst hk; simp at hy; subst hy; exact hb)
 exact ⟨this.1, this.2.1⟩
theorem Zrs {A : Ar} {s1 : St} {x : Blk} {d : D} {k : Nat} {op : Op} (h : Z5g A T s1 (fun y mk => y = x /\ mk k = d) op) : x.obj = none := by
 cases op <;> simp only [Z5g, Zpd, Zpe] at h
 all_goals repeat' (split at h)
 all_goals first
  | exact h.elim
  | exact h.2.2.elim
  | (obtain ⟨rfl, -⟩ := h; rfl)
  | (obtain ⟨-, -, rfl, -⟩ := h; rfl)
theorem Zuk {A : Ar} {s1 : St} {x : Blk} {d : D} {k : Nat} {o : Oper} (h : Zh ops s1 o (fun s' => Z5g A T s' (fun y mk => y = x /\ mk k = d) o.op) (fun _ => False)) : x.obj = none := by
 unfold Zh at h
 repeat' (split at h)
 all_goals first
  | exact Zrs h
  | exact h.elim
theorem Z5o (e : List (Nat × D)) (dst : Option Nat) (d : D) (n : Nat) : Z1c (Z9c e dst d) n = if dst = some n then some d else Z1c e n := by
 cases dst with
 | none => simp [Z9c]
 | some t => simp only [Z9c, Z5n, Option.some.injEq]
theorem Zce {dst : Option Nat} {d : D} {H : List Blk} {ds : List AD} {ts : List Nat} (h : ∀ t, dst = some t -> t ∉ ts) : ((s.step dst d H ds).only ts).env = (s.only ts).env :=
 Zk5 fun t ht => by
  show Z1c (Z9c s.env dst d) t = _;rw [Z5o, if_neg (fun e => h t e ht)]
theorem Zgy {dst : Option Nat} {d : D} {ts : List Nat} (h : ∀ t, dst = some t -> t ∉ ts) : (s.step dst d s.H s.dfs).only ts = s.only ts := by
 have := Zce (s := s) (d := d) (H := s.H) (ds := s.dfs) h;simp only [St.only, St.step] at this ⊢;rw [this]
theorem Zul {u : Nat × PK} {o : Oper} {d : D} (hw : ∀ o' t, ops[u.1]? = some o' -> o.dst = some t -> o'.dst ≠ some t /\ t ∉ o'.looksAt ops) (h : POk ar T ops s u) : POk ar T ops (s.step o.dst d s.H s.dfs) u := by
 obtain ⟨o', h1, h2, h3, h4⟩ := h.out;have he : (s.step o.dst d s.H s.dfs).only (o'.looksAt ops) = s.only (o'.looksAt ops) := Zgy fun t ht => (hw o' t h1 ht).2;refine ⟨o', h1, h2, fun t ht => ?_, ?_⟩
 ·show Z1c (Z9c s.env o.dst d) t = _;rw [Z5o, if_neg (fun e => (hw o' t h1 e).1 ht)]; exact h3 t ht
 ·obtain ⟨i, pk⟩ := u
  cases pk with
  | val d' => simp only at h4 ⊢; rw [he]; exact h4
  | alc k x d' => simp only at h4 ⊢; rw [he]; exact h4
theorem Zk7 {A : Ar} {s1 s2 : St} (h : s2.env = s1.env) {K : Blk -> (Nat -> D) -> Prop} (op : Op) : Z5g A T s2 K op = Z5g A T s1 K op := by
 cases op <;> simp only [Z5g, h]
theorem Zgz {s1 s2 : St} (h : s2.env = s1.env) {o : Oper} {K : Blk -> (Nat -> D) -> Prop} (hg : Zh ops s1 o (fun s' => Z5g ar T s' K o.op) (fun _ => False)) : Zh ops s2 o (fun s' => Z5g ar T s' K o.op) (fun _ => False) := by
 unfold Zh at hg ⊢;rw [h]
 split at hg
 ·rw [Zk7 h]; exact hg
 ·split at hg
  ·exact hg.elim
  ·split at hg
   ·exact hg.elim
   ·split at hg
    ·split at hg <;> split at hg <;> first | exact hg.elim | (rw [Zk7 (s1 := { s1 with env := setE s1.env _ _ }) (by rfl)]; exact hg)
    ·exact hg.elim
    ·exact hg.elim
theorem RD.more (h : RD T m ops F μ s (L) und listed a w) {i : Nat} {L' : List Nat} (hL : L = i :: L') {o : Oper} (ho : ops[i]? = some o) (hsub : ∀ u ∈ und, u ∈ pend) (hl : LooksOk ops o pend) (hw : WritesOk ops o pend) (hs : ∀ t, o.dst = some t -> t ∉ o.looksAt ops)
  {H' : List Blk} {d : D} {pk : PK} (hr : HR F μ H' w) (hob : ∀ k y, Z13 s.H k = some y -> Z13 H' k = some y) (hlen : m <= H'.length) (hok : ∀ u ∈ (i, pk) :: und, POk ar T ops (s.step o.dst d H' s.dfs) u)
  (hpr : ∀ k x d, pk = .alc k x d -> μ k = none /\ m <= k) (hks : ∀ k x d, pk = .alc k x d -> ∀ u ∈ und, ∀ x' d', u.2 ≠ .alc k x' d') : RD T m ops F μ (s.step o.dst d H' s.dfs) L' ((i, pk) :: und) listed a w := by
 subst hL;have hnd := h.nd;refine ⟨hr, fun t d0 ht hun => ?_, h.nt, h.dfs.mono (fun _ _ _ e => e) (fun _ _ e => e) (fun k hk => ⟨hob k _ hk, fun _ e => e⟩), hlen, h.size, fun j => ?_, ?_, hok, fun u hu u' hu' o1 o2 t h1 h2 h3 h4 => ?_, fun u hu u' hu' hne o1 o2 t h1 h2 h3 => ?_, fun u hu k x d0 e => ?_, fun u hu u' hu' k x d0 x' d0' e e' => ?_⟩
 ·have hne := hun (i, pk) (by simp) o ho
  change Z1c (Z9c s.env o.dst d) t = some d0 at ht
  rw [Z5o, if_neg hne] at ht;exact h.env t d0 ht fun u hu => hun u (by simp [hu])
 ·rw [h.opn j];constructor
  ·rintro (hj | ⟨u, hu, e⟩)
   ·rcases List.mem_cons.1 hj with rfl | hj
    ·exact .inr ⟨(j, pk), by simp, rfl⟩
    ·exact .inl hj
   ·exact .inr ⟨u, by simp [hu], e⟩
  ·rintro (hj | ⟨u, hu, e⟩)
   ·exact .inl (by simp [hj])
   ·rcases List.mem_cons.1 hu with rfl | hu
    ·exact .inl (by simp [<- e])
    ·exact .inr ⟨u, hu, e⟩
 ·rw [List.map_cons];exact (List.perm_middle.nodup_iff).2 (by simpa using hnd)
 ·rcases List.mem_cons.1 hu with rfl | hu <;> rcases List.mem_cons.1 hu' with rfl | hu'
  ·simp only at h1 h2;rw [ho] at h1 h2; cases h1; cases h2;exact absurd h4 (hs t h3)
  ·simp only at h1;rw [ho] at h1; cases h1;exact hl.out u' (hsub u' hu') o2 t h2 h3 h4
  ·simp only at h2;rw [ho] at h2; cases h2;exact absurd h4 (hw.out u (hsub u hu) o1 t h1 h3).2
  ·exact h.cl u hu u' hu' o1 o2 t h1 h2 h3 h4
 ·rcases List.mem_cons.1 hu with rfl | hu <;> rcases List.mem_cons.1 hu' with rfl | hu'
  ·exact absurd rfl hne
  ·simp only at h1;rw [ho] at h1; cases h1;exact (hw.out u' (hsub u' hu') o2 t h2 h3).1
  ·simp only at h2;rw [ho] at h2; cases h2;intro e;exact (hw.out u (hsub u hu) o1 t h1 e).1 h3
  ·exact h.ds u hu u' hu' hne o1 o2 t h1 h2 h3
 ·rcases List.mem_cons.1 hu with rfl | hu
  ·exact hpr k x d0 e
  ·exact h.pr u hu k x d0 e
 ·rcases List.mem_cons.1 hu with rfl | hu <;> rcases List.mem_cons.1 hu' with rfl | hu'
  ·rfl
  ·exact absurd e' (hks k x d0 e u' hu' x' d0')
  ·exact absurd e (hks k x' d0' e' u hu x d0)
  ·exact h.ks u hu u' hu' k x d0 x' d0' e e'
theorem RD.eff (h : RD T m ops F μ s L und listed a w) {i : Nat} {L' : List Nat} (hL : L = i :: L') {o : Oper} (hd : Z36 s.nt o.dst = true) {F' : Fz} {μ' : Mu} {H' : List Blk} {w' : World} {d : D} {v : Value} {ds : List AD} {dv : List Deferred} (hs : Stp F μ s.H w F' μ' H' w') (hds : ADR F' μ' H' ds dv) (hv : VR F' μ' d v)
  (hok : ∀ u ∈ und, POk ar T ops (s.step o.dst d H' ds) u) : RD T m ops F' μ' (s.step o.dst d H' ds) L' und (listed.setIfInBounds i true) ({ a with defers := dv }.put o.dst v) w' := by
 subst hL;have hnd := h.nd;rw [List.cons_append, List.nodup_cons] at hnd;refine ⟨hs.hr, fun t d0 ht hun => ?_, by rw [Zk6]; exact h.nt, by rw [Zo3]; exact hds, Nat.le_trans h.len hs.len, by rw [Array.size_setIfInBounds]; exact h.size, fun j => ?_, hnd.2, hok, h.cl, h.ds, fun u hu k x d0 e => ?_, h.ks⟩
 ·rw [Zo2]
  change Z1c (Z9c s.env o.dst d) t = some d0 at ht
  rw [Z5o] at ht
  split at ht
  ·rename_i e; cases ht
   exact ⟨v, by rw [if_pos ⟨e, by show t < a.tmps.size; rw [h.nt]; exact Zrr hd e⟩], hv⟩
  ·rename_i e
   rw [if_neg (fun hh => e hh.1)];obtain ⟨u, h1, h2⟩ := h.env t d0 ht hun;exact ⟨u, h1, hs.vr h.hr h2⟩
 ·rw [Array.getElem?_setIfInBounds]
  by_cases e : i = j
  ·subst e;rw [if_pos rfl];constructor
   ·intro hh; split at hh <;> cases hh
   ·rintro (hL | ⟨u, hu, e⟩)
    ·exact absurd (List.mem_append.2 (.inl hL)) hnd.1
    ·exact absurd (List.mem_append.2 (.inr (List.mem_map.2 ⟨u, hu, e⟩))) hnd.1
  ·rw [if_neg e, h.opn j];refine or_congr_left ⟨fun hj => ?_, fun hj => by simp [hj]⟩;rcases List.mem_cons.1 hj with hj | hj
   ·exact absurd hj.symm e
   ·exact hj
 ·obtain ⟨h1, h2⟩ := h.pr u hu k x d0 e;obtain ⟨o', -, -, -, h4⟩ := (h.ok u hu).out;rw [e] at h4;have h5 := h4.2.1;rw [Z1u] at h5;exact ⟨by rw [hs.same k (List.getElem?_eq_some_iff.1 h5).1]; exact h1, h2⟩
theorem RD.swap {i j : Nat} {L : List Nat} (h : RD T m ops F μ s (i :: j :: L) und listed a w) : RD T m ops F μ s (j :: i :: L) und listed a w :=
 ⟨h.hr, h.env, h.nt, h.dfs, h.len, h.size, fun k => by
  rw [h.opn k]
  refine or_congr_left ?_
  simp only [List.mem_cons]
  constructor <;> rintro (e | e | e) <;> simp [e], by
  have := h.nd
  simp only [List.cons_append] at this ⊢
  exact (List.Perm.swap _ _ _).nodup_iff.1 this, h.ok, h.cl, h.ds, h.pr, h.ks⟩
theorem Zk8 (hT : TOK P T) (hE : ∀ (i : Nat) (o : Oper), ops[i]? = some o -> ∀ e ∈ ons o, e < i) {L : List Nat} {pend : List (Nat × PK)} {s : St} (hD : DrawA P T r m ops Q L pend s) :
  ∀ (und : List (Nat × PK)), (∀ u ∈ und, u ∈ pend) -> ∀ (F : Fz) (μ : Mu) (listed : Array Bool) (a : Act) (w : World), RD T m ops F μ s L und listed a w -> wpAnyIn (Fc r) 0 P .any ops (Z4f F μ s.H w m Q) (L.length + und.length) listed a w := by
 induction hD with
 | @done pend s hq =>
  intro und
  generalize hn : und.length = n
  induction n using Nat.strongRecOn generalizing und with
  | _ n ih =>
   intro hsub F μ listed a w hrd
   cases n with
   | zero =>
    have hu : und = [] := by cases und with
     | nil => rfl
     | cons => simp at hn
    subst hu;refine ⟨?_, Z4f.here (x := .normal) ⟨hrd.hr, ⟨fun t d ht => hrd.env t d ht (fun u hu => by simp at hu), hrd.nt, hrd.dfs⟩, hrd.len⟩ trivial hq⟩
    cases hr : Region.ready .any ops listed with
    | nil => rfl
    | cons j js =>
     have := hrd.open_of_ready (i := j) (by rw [hr]; simp);simp at this
   | succ n =>
    have hne : ∃ i, i ∈ ([] : List Nat) ∨ ∃ u ∈ und, u.1 = i := by
     cases und with
     | nil => simp at hn
     | cons u us => exact ⟨u.1, .inr ⟨u, by simp, rfl⟩⟩
    refine ⟨fun e => absurd e (hrd.progress hE hne), fun j hj => ?_⟩;rcases hrd.open_of_ready hj with h | ⟨u, hu, rfl⟩
    ·simp at h
    ·have hnd := hrd.nd;rw [List.nil_append] at hnd;have hlen := Z6k hnd (List.mem_map.2 ⟨u, hu, rfl⟩);have := Zfg (Q := Q) (r := r) hT hrd hu hj (fun F μ listed a w h => by
      rw [List.length_nil, Nat.zero_add]
      have := ih (Z3p und u.1).length (by omega) (Z3p und u.1) rfl (fun x hx => hsub x (Z1x.1 hx).1) F μ listed a w h
      rwa [List.length_nil, Nat.zero_add] at this)
     rw [List.length_nil, Nat.zero_add, show (Z3p und u.1).length = n by omega] at this;have e0 : Nat.add 0 n = n := Nat.zero_add n;simp only [List.length_nil, e0];exact this
 | @val i L pend s o d ho hd hl hw hs hy _ ih =>
  intro und hsub F μ listed a w hrd;have := ih ((i, .val d) :: und) (fun u hu => by
   rcases List.mem_cons.1 hu with rfl | hu
   ·simp
   ·simp [hsub u hu]) F μ listed a w (hrd.more rfl ho hsub hl hw hs hrd.hr (fun _ _ e => e) hrd.len (fun u hu => by
    rcases List.mem_cons.1 hu with rfl | hu
    ·refine ⟨o, ho, hd, fun t ht => ?_, ?_⟩
     ·show Z1c (Z9c s.env o.dst d) t = _
      rw [Z5o, if_pos ht]; rfl
     ·show Z9i ar T ops ((s.step o.dst d s.H s.dfs).only (o.looksAt ops)) o _
      rw [Zgy hs]; exact hy
    ·exact Zul (fun o' t h1 h2 => hw.out u (hsub u hu) o' t h1 h2) (hrd.ok u hu)) (fun k x d e => by cases e) (fun k x d e => by cases e))
  rw [List.length_cons, show L.length + 1 + und.length = L.length + (und.length + 1) by omega];exact this
 | @alc i L pend s o x d ho hd hl hw hs hb hy hp _ ih =>
  intro und hsub F μ listed a w hrd;obtain ⟨r1, r2⟩ := Zmm hrd.hr hb (Zuk hy);have := ih ((i, .alc s.H.length x d) :: und) (fun u hu => by
   rcases List.mem_cons.1 hu with rfl | hu
   ·simp
   ·simp [hsub u hu]) F μ listed a w (hrd.more rfl ho hsub hl hw hs r1 (fun _ _ e => Z41 x e) (by have := hrd.len; simp; omega) (fun u hu => by
    rcases List.mem_cons.1 hu with rfl | hu
    ·refine ⟨o, ho, hd, fun t ht => ?_, ?_⟩
     ·show Z1c (Z9c s.env o.dst d) t = _
      rw [Z5o, if_pos ht]; rfl
     ·refine ⟨?_, by rw [Z1u]; simp [St.step], hb⟩
      have he := Zce (s := s) (dst := o.dst) (d := d) (H := s.H ++ [x]) (ds := s.dfs) (ts := o.looksAt ops) hs
      refine Zgz (s1 := s.only (o.looksAt ops)) he hy
    ·exact hp u (hsub u hu) (hrd.ok u hu)) (fun k x d e => by cases e; exact ⟨hrd.hr.dom _ (Nat.le_refl _), hrd.len⟩) (fun k x' d' e u hu x1 d1 e1 => by
     cases e
     obtain ⟨o', -, -, -, h4⟩ := (hrd.ok u hu).out
     rw [e1] at h4
     have h5 := h4.2.1
     rw [Z1u] at h5
     have := (List.getElem?_eq_some_iff.1 h5).1
     omega))
  rw [List.length_cons, show L.length + 1 + und.length = L.length + (und.length + 1) by omega];exact Z3x (fun _ _ _ hq => hq.trans r2 (.ob fun _ e => Z41 x e)) _ _ _ _ this
 | @eff i L pend s o K pend' ho hd hl hw hpp hr hk hpin h ih =>
  intro und
  generalize hn : und.length = n
  induction n using Nat.strongRecOn generalizing und with
  | _ n ihn =>
   intro hsub F μ listed a w hrd;rw [List.length_cons, show L.length + 1 + n = (L.length + n) + 1 by omega];refine ⟨fun e => absurd e (hrd.progress hE ⟨i, .inl (by simp)⟩), fun j hj => ?_⟩;rcases hrd.open_of_ready hj with hjL | ⟨u, hu, rfl⟩
   ·rcases List.mem_cons.1 hjL with rfl | hjL
    ·have er := hrd.er ho hj (fun u' hu' o' t h1 h2 h3 => hl.out u' (hsub u' hu') o' t h1 h2 h3);have hsub' : ∀ u ∈ und, u ∈ pend' := fun u hu => (hpp u (hsub u hu)).resolve_right fun hin => hrd.pre ho hj _ hin (.inr ⟨u, hu, rfl⟩);unfold wpOpIn;rw [ho];simp only;obtain ⟨e, he, hc⟩ := Z4m hk er;have er' : ER F μ { s.only (o.looksAt ops) with env := e } a := ⟨fun t d ht => er.env t d (he t d ht), er.nt, er.dfs⟩;rcases hc with ⟨hwt, hkk⟩ | ⟨hwt, hkk⟩
     ·rw [if_pos hwt];refine ⟨fun _ _ => trivial, hkk.out F μ a w hrd.hr er' _ _ (fun F' μ' H' w' ds dv d v q1 qd q2 q3 => ?_) (fun F' μ' H' w' d v q1 q2 q3 => ?_)⟩
      ·have hrd' := hrd.eff rfl hd (o := o) (ds := ds) q1 qd q2 (fun u hu => hpin d H' ds q3 u (hsub' u hu) (hrd.ok u hu));have := ih d H' ds q3 und hsub' F' μ' _ _ w' hrd';rw [hn] at this;exact Z3x (fun _ _ _ hq => hq.trans q1.post (q1.keep hrd.len)) _ _ _ _ this
      ·exact ⟨F', μ', { env := [], H := H', nt := s.nt, dfs := s.dfs }, .pan d, q1.post, q1.keep hrd.len, ⟨q1.hr, ⟨(fun t d ht => by cases ht), hrd.nt, q1.adr hrd.hr hrd.dfs⟩, Nat.le_trans hrd.len q1.len⟩, ⟨v, rfl, q2⟩, q3 []⟩
     ·rw [if_neg (by rw [hwt]; simp)];refine ⟨fun _ _ => trivial, ?_⟩;have hrd' := hrd.eff rfl hd (o := o) (d := .tup []) (v := undef) (ds := s.dfs) (Stp.refl hrd.hr) hrd.dfs Z5h (fun u hu => hpin _ _ _ hkk u (hsub' u hu) (hrd.ok u hu));have := ih _ _ _ hkk und hsub' F μ _ _ w hrd';rw [hn] at this;exact this
    ·obtain ⟨-, o', ho', -⟩ := mem_ready.1 hj;obtain ⟨e, he1, he2⟩ := hr j hjL o' ho';exact (hrd.pre ho' hj e he1 (.inl (by rcases he2 with rfl | he2 <;> simp [*]))).elim
   ·have hnd := hrd.nd;rw [List.nodup_append] at hnd;have hlen := Z6k hnd.2.1 (List.mem_map.2 ⟨u, hu, rfl⟩);have := Zfg (Q := Q) (r := r) hT hrd hu hj (fun F μ listed a w h => ihn (Z3p und u.1).length (by omega) (Z3p und u.1) rfl (fun x hx => hsub x (Z1x.1 hx).1) F μ listed a w h);rw [List.length_cons, show L.length + 1 + (Z3p und u.1).length = L.length + n by omega] at this;exact this
 | @two i j L pend s o o2 K K2 p p2 ho ho2 hd hd2 hl hl2 hw hw2 hpp hpp2 hr hk hk2 hpin hpin2 h h2 ih ih2 =>
  intro und
  generalize hn : und.length = n
  induction n using Nat.strongRecOn generalizing und with
  | _ n ihn =>
   intro hsub F μ listed a w hrd;have hsw := hrd.swap;rw [List.length_cons, List.length_cons, show L.length + 1 + 1 + n = (L.length + 1 + n) + 1 by omega];refine ⟨fun e => absurd e (hrd.progress hE ⟨i, .inl (by simp)⟩), fun q hj => ?_⟩;rcases hrd.open_of_ready hj with hjL | ⟨u, hu, rfl⟩
   ·rcases List.mem_cons.1 hjL with rfl | hjL
    ·clear hsw;have er := hrd.er ho hj (fun u' hu' o' t h1 h2 h3 => hl.out u' (hsub u' hu') o' t h1 h2 h3);have hsub' : ∀ u ∈ und, u ∈ p := fun u hu => (hpp u (hsub u hu)).resolve_right fun hin => hrd.pre ho hj _ hin (.inr ⟨u, hu, rfl⟩);unfold wpOpIn;rw [ho];simp only;obtain ⟨e, he, hc⟩ := Z4m hk er;have er' : ER F μ { s.only (o.looksAt ops) with env := e } a := ⟨fun t d ht => er.env t d (he t d ht), er.nt, er.dfs⟩;rcases hc with ⟨hwt, hkk⟩ | ⟨hwt, hkk⟩
     ·rw [if_pos hwt];refine ⟨fun _ _ => trivial, hkk.out F μ a w hrd.hr er' _ _ (fun F' μ' H' w' ds dv d v q1 qd q2 q3 => ?_) (fun F' μ' H' w' d v q1 q2 q3 => ?_)⟩
      ·have hrd' := hrd.eff rfl hd (o := o) (ds := ds) q1 qd q2 (fun u hu => hpin d H' ds q3 u (hsub' u hu) (hrd.ok u hu));have := ih d H' ds q3 und hsub' F' μ' _ _ w' hrd';rw [hn, List.length_cons] at this;exact Z3x (fun _ _ _ hq => hq.trans q1.post (q1.keep hrd.len)) _ _ _ _ this
      ·exact ⟨F', μ', { env := [], H := H', nt := s.nt, dfs := s.dfs }, .pan d, q1.post, q1.keep hrd.len, ⟨q1.hr, ⟨(fun t d ht => by cases ht), hrd.nt, q1.adr hrd.hr hrd.dfs⟩, Nat.le_trans hrd.len q1.len⟩, ⟨v, rfl, q2⟩, q3 []⟩
     ·rw [if_neg (by rw [hwt]; simp)];refine ⟨fun _ _ => trivial, ?_⟩;have hrd' := hrd.eff rfl hd (o := o) (d := .tup []) (v := undef) (ds := s.dfs) (Stp.refl hrd.hr) hrd.dfs Z5h (fun u hu => hpin _ _ _ hkk u (hsub' u hu) (hrd.ok u hu));have := ih _ _ _ hkk und hsub' F μ _ _ w hrd';rw [hn, List.length_cons] at this;exact this
    ·rcases List.mem_cons.1 hjL with rfl | hjL
     ·have er := hsw.er ho2 hj (fun u' hu' o' t h1 h2 h3 => hl2.out u' (hsub u' hu') o' t h1 h2 h3);have hsub' : ∀ u ∈ und, u ∈ p2 := fun u hu => (hpp2 u (hsub u hu)).resolve_right fun hin => hsw.pre ho2 hj _ hin (.inr ⟨u, hu, rfl⟩);unfold wpOpIn;rw [ho2];simp only;obtain ⟨e, he, hc⟩ := Z4m hk2 er;have er' : ER F μ { s.only (o2.looksAt ops) with env := e } a := ⟨fun t d ht => er.env t d (he t d ht), er.nt, er.dfs⟩;rcases hc with ⟨hwt, hkk⟩ | ⟨hwt, hkk⟩
      ·rw [if_pos hwt];refine ⟨fun _ _ => trivial, hkk.out F μ a w hsw.hr er' _ _ (fun F' μ' H' w' ds dv d v q1 qd q2 q3 => ?_) (fun F' μ' H' w' d v q1 q2 q3 => ?_)⟩
       ·have hrd' := hsw.eff rfl hd2 (o := o2) (ds := ds) q1 qd q2 (fun u hu => hpin2 d H' ds q3 u (hsub' u hu) (hsw.ok u hu));have := ih2 d H' ds q3 und hsub' F' μ' _ _ w' hrd';rw [hn, List.length_cons] at this;exact Z3x (fun _ _ _ hq => hq.trans q1.post (q1.keep hsw.len)) _ _ _ _ this
       ·exact ⟨F', μ', { env := [], H := H', nt := s.nt, dfs := s.dfs }, .pan d, q1.post, q1.keep hsw.len, ⟨q1.hr, ⟨(fun t d ht => by cases ht), hsw.nt, q1.adr hsw.hr hsw.dfs⟩, Nat.le_trans hsw.len q1.len⟩, ⟨v, rfl, q2⟩, q3 []⟩
      ·rw [if_neg (by rw [hwt]; simp)];refine ⟨fun _ _ => trivial, ?_⟩;have hrd' := hsw.eff rfl hd2 (o := o2) (d := .tup []) (v := undef) (ds := s.dfs) (Stp.refl hsw.hr) hsw.dfs Z5h (fun u hu => hpin2 _ _ _ hkk u (hsub' u hu) (hsw.ok u hu));have := ih2 _ _ _ hkk und hsub' F μ _ _ w hrd';rw [hn, List.length_cons] at this;exact this
     ·obtain ⟨-, o', ho', -⟩ := mem_ready.1 hj;obtain ⟨e, he1, he2⟩ := hr q hjL o' ho';exact (hrd.pre ho' hj e he1 (.inl (by rcases he2 with rfl | rfl | he2 <;> simp [*]))).elim
   ·have hnd := hrd.nd;rw [List.nodup_append] at hnd;have hlen := Z6k hnd.2.1 (List.mem_map.2 ⟨u, hu, rfl⟩);have := Zfg (Q := Q) (r := r) hT hrd hu hj (fun F μ listed a w h => ihn (Z3p und u.1).length (by omega) (Z3p und u.1) rfl (fun x hx => hsub x (Z1x.1 hx).1) F μ listed a w h);rw [List.length_cons, List.length_cons, show L.length + 1 + 1 + (Z3p und u.1).length = L.length + 1 + n by omega] at this;exact this
end
end Go.Abs

namespace Go.Abs
open Go
def allB (p : Nat -> Bool) : List Nat -> Bool
 | [] => true
 | i :: r => (match p i with | true => allB p r | false => false)
theorem Z70 {p : Nat -> Bool} : ∀ {l : List Nat}, allB p l = true ↔ ∀ i ∈ l, p i = true
 | [] => by simp [allB]
 | i :: r => by
  simp only [allB]
  split
  ·rename_i h; rw [Z70 (l := r)]; simp [h]
  ·rename_i h; simp [h]
def Zh0 (n : Nat) (L : List Nat) : Bool := Nat.beq L.length n && (allB (fun i => Nat.blt i n) L && (allB (fun i => Z7a L i) (List.range n) && nodupB L))
 where nodupB : List Nat -> Bool
 | [] => true
 | i :: r => (match Z7a r i with | true => false | false => nodupB r)
theorem Zfh : ∀ {l : List Nat}, Zh0.nodupB l = true -> l.Nodup
 | [], _ => List.nodup_nil
 | i :: r, h => by
  simp only [Zh0.nodupB] at h
  split at h
  ·cases h
  ·rename_i hm
   refine List.nodup_cons.2 ⟨fun hi => ?_, Zfh h⟩;rw [(Z3w r i).2 hi] at hm; cases hm
def Zim (ops : Array Oper) : Bool := allB (fun i => match ops[i]? with | some o => allB (fun e => Nat.blt e i) (ons o) | none => true) (List.range ops.size)
section
variable {P : Program} {T : TT} {r : Option Nat} {m : Nat} {ops : Array Oper} {Q : AX -> St -> Prop} {s : St} {L : List Nat} {A : Ar}
theorem Zin (h : Zim ops = true) : ∀ (i : Nat) (o : Oper), ops[i]? = some o -> ∀ e ∈ ons o, e < i := fun i o ho e he => by
 have h1 := Z70.1 h i (List.mem_range.2 (Array.getElem?_eq_some_iff.1 ho).1);rw [ho] at h1;exact Nat.le_of_ble_eq_true (Z70.1 h1 e he)
theorem Zk9 (hT : TOK P T) {id : Nat} (hE : Zim ops = true) (hL : Zh0 ops.size L = true) (hD : DrawA P T r m ops Q L [] s) : WpA P r m (.region id ops true) Q s := by
 refine ⟨fun F μ a w h1 => ?_⟩;simp only [Zh0, Bool.and_eq_true] at hL;obtain ⟨l1, l2, l4, l3⟩ := hL;have l1 := Nat.eq_of_beq_eq_true l1;have l3 := Zfh l3;have hmem : ∀ i, i ∈ L ↔ i < ops.size := fun i => by
  constructor
  ·intro hi; exact Nat.le_of_ble_eq_true (Z70.1 l2 i hi)
  ·intro hi; exact (Z3w L i).1 (Z70.1 l4 i (List.mem_range.2 hi))
 refine wpIn_region_any hT.mixed ?_
 let w1 : World := { w with drawn := w.drawn + 1 }
 have hrd : RD T m ops F μ s L [] (Array.replicate ops.size false) a w1 := by
  refine ⟨h1.hr.congr rfl, fun t d ht _ => h1.er.env t d ht, h1.er.nt, h1.er.dfs, h1.len, by simp, fun i => ?_, by simpa using l3, fun u hu => by simp at hu, fun u hu => by simp at hu, fun u hu => by simp at hu, fun u hu => by simp at hu, fun u hu => by simp at hu⟩;rw [hmem i, Array.getElem?_replicate];simp
 have := Zk8 hT (Zin hE) hD [] (fun u hu => by simp at hu) F μ _ a w1 hrd;rw [List.length_nil, Nat.add_zero, l1] at this;exact Z3x (fun _ _ _ hq => hq.trans (Post.congr (w2 := w1) (Post.refl F μ s.H w) rfl rfl rfl rfl) (.refl _ _ _)) _ _ _ _ this
theorem Z3l : ∀ {e : List (Nat × D)} {t : Nat} {d : D}, Z1c e t = some d -> setE e t d = e
 | [], t, d, h => by cases h
 | (t0, d0) :: r, t, d, h => by
  simp only [Z1c] at h;simp only [setE]
  split
  ·rename_i hb
   obtain rfl := Nat.eq_of_beq_eq_true hb;rw [if_pos rfl] at h; cases h; rfl
  ·rename_i hb
   rw [if_neg (fun e => by subst e; rw [Nat.beq_refl] at hb; cases hb)] at h;rw [Z3l h]
theorem Z3q {o : Oper} {Kt Kf : St -> Prop} (h : Zh ops s o Kt Kf) : (Kt s /\ ∀ K1 K2 : St -> Prop, K1 s -> Zh ops s o K1 K2) ∨ (Kf s /\ ∀ K1 K2 : St -> Prop, K2 s -> Zh ops s o K1 K2) := by
 unfold Zh at h
 split at h
 ·rename_i hg; exact .inl ⟨h, fun K1 K2 hk => by unfold Zh; rw [hg]; exact hk⟩
 ·rename_i j want hg
  split at h
  ·rename_i ho; exact .inr ⟨h, fun K1 K2 hk => by unfold Zh; rw [hg]; simp only [ho]; exact hk⟩
  ·rename_i oj ho
   split at h
   ·rename_i hd; exact .inr ⟨h, fun K1 K2 hk => by unfold Zh; rw [hg]; simp only [ho, hd]; exact hk⟩
   ·rename_i t hd
    split at h
    ·rename_i b hb
     cases want <;> cases b <;> simp only [Z3l hb] at h
     ·exact .inl ⟨h, fun K1 K2 hk => by unfold Zh; rw [hg]; simp only [ho, hd, hb, Z3l hb]; exact hk⟩
     ·exact .inr ⟨h, fun K1 K2 hk => by unfold Zh; rw [hg]; simp only [ho, hd, hb, Z3l hb]; exact hk⟩
     ·exact .inr ⟨h, fun K1 K2 hk => by unfold Zh; rw [hg]; simp only [ho, hd, hb, Z3l hb]; exact hk⟩
     ·exact .inl ⟨h, fun K1 K2 hk => by unfold Zh; rw [hg]; simp only [ho, hd, hb, Z3l hb]; exact hk⟩
    ·rename_i hb; exact .inr ⟨h, fun K1 K2 hk => by unfold Zh; rw [hg]; simp only [ho, hd, hb]; exact hk⟩
    ·exact h.elim
theorem Zfi {env : List (Nat × D)} : ∀ {ts : List Nat} {t : Nat}, t ∈ ts -> Z1c (rE env ts) t = Z1c env t
 | [], t, h => by simp at h
 | t0 :: r, t, h => by
  simp only [rE]
  by_cases e : t0 = t
  ·subst e
   split
   ·rename_i d hd; simp only [Z1c, if_true]; exact hd.symm
   ·rename_i hd
    by_cases h2 : t0 ∈ r
    ·exact Zfi h2
    ·rw [hd]
     cases hx : Z1c (rE env r) t0 with
     | none => rfl
     | some x => exact absurd (Zil hx).2 h2
  ·have h2 : t ∈ r := by
    rcases List.mem_cons.1 h with e' | h
    ·exact absurd e'.symm e
    ·exact h
   split
   ·simp only [Z1c, if_neg e]; exact Zfi h2
   ·exact Zfi h2
theorem Z3r {o : Oper} {K1 K2 : St -> Prop} (h : ∀ K1 K2 : St -> Prop, K1 s -> Zh ops s o K1 K2) (hk : K1 (s.only (o.looksAt ops))) : Zh ops (s.only (o.looksAt ops)) o K1 K2 := by
 have h1 := h (fun _ => True) (fun _ => False) trivial;unfold Zh at h1 ⊢
 split at h1
 ·rename_i hg; exact hk
 ·rename_i j want hg
  split at h1
  ·exact h1.elim
  ·rename_i oj ho
   split at h1
   ·exact h1.elim
   ·rename_i t hd
    have ht : t ∈ o.looksAt ops := by
     unfold Oper.looksAt; rw [hg]; simp [ho, hd]
    have hget : Z1c (s.only (o.looksAt ops)).env t = Z1c s.env t := Zfi ht
    split at h1
    ·rename_i b hb
     rw [hb] at hget;rw [hget]
     cases want <;> cases b <;> simp only at h1 ⊢ <;> first | exact h1.elim | (rw [Z3l hget]; exact hk)
    ·exact h1.elim
    ·exact h1.elim
theorem Z4n {o : Oper} {K1 K2 : St -> Prop} (h : ∀ K1 K2 : St -> Prop, K2 s -> Zh ops s o K1 K2) (hk : K2 (s.only (o.looksAt ops))) : Zh ops (s.only (o.looksAt ops)) o K1 K2 := by
 have h1 := h (fun _ => False) (fun _ => True) trivial;unfold Zh at h1 ⊢
 split at h1
 ·exact h1.elim
 ·rename_i j want hg
  split at h1
  ·exact hk
  ·rename_i oj ho
   split at h1
   ·exact hk
   ·rename_i t hd
    have ht : t ∈ o.looksAt ops := by
     unfold Oper.looksAt; rw [hg]; simp [ho, hd]
    have hget : Z1c (s.only (o.looksAt ops)).env t = Z1c s.env t := Zfi ht
    split at h1
    ·rename_i b hb
     rw [hb] at hget;rw [hget]
     cases want <;> cases b <;> simp only at h1 ⊢ <;> first | exact h1.elim | (rw [Z3l hget]; exact hk)
    ·rename_i hb
     rw [hb] at hget;rw [hget]; exact hk
    ·exact h1.elim
end
end Go.Abs

namespace Go.Abs
open Go
def Z9j : Op -> Bool
 | .load _ _ => true
 | .lookup _ _ _ _ => true
 | _ => false
section
variable {P : Program} {T : TT} {r : Option Nat} {m : Nat} {ops : Array Oper} {Q : AX -> St -> Prop} {s : St} {L : List Nat} {A : Ar}
theorem Zdx {s1 s2 : St} (h : s2.env = s1.env) {K : D -> Prop} {op : Op} (hl : Z9j op = false) : Z1q A T s2 K op = Z1q A T s1 K op := by
 cases op
 case load => simp [Z9j] at hl
 case lookup => simp [Z9j] at hl
 case slice t x lo hi mx => cases mx <;> simp only [Z1q, h]
 case call c =>
  obtain ⟨callee, args, ats⟩ := c
  cases callee with
  | value f => rfl
  | invoke a b => rfl
  | builtin b => cases b <;> first | rfl | simp only [Z1q, h]
 all_goals first | rfl | simp only [Z1q, h]
theorem Z5i {H : List Blk} {x y : Blk} {k : Nat} (h : Z1m H k = some y) : Z1m (H ++ [x]) k = some y := by
 rw [Z1u] at h ⊢;rw [List.getElem?_append_left (List.getElem?_eq_some_iff.1 h).1]; exact h
theorem Zum {H : List Blk} {x : Blk} {agg : Bool} {n : Nat} {d : D} {K : D -> Prop} (h : ldP A H agg n K d) : ldP A (H ++ [x]) agg n K d := by
 unfold ldP at h ⊢
 split at h
 ·split at h
  ·rename_i hb; rw [Z5i hb]; exact h
  ·exact h.elim
 ·split at h
  ·rename_i hb; rw [Z5i hb]; exact h
  ·exact h.elim
 ·split at h
  ·rename_i hb; rw [Z5i hb]; exact h
  ·rename_i hb; rw [Z5i hb]; exact h
  ·exact h.elim
 ·exact h
 ·exact h
 ·exact h.elim
theorem Zrt {H : List Blk} {x : Blk} {t : TypeId} {ok : Bool} {K : D -> Prop} {key m : D} (h : Zea A T H t ok K key m) : Zea A T (H ++ [x]) t ok K key m := by
 unfold Zea at h ⊢
 split at h
 ·exact h
 ·split at h
  ·rename_i h1 h2; rw [h1, Z5i h2]; exact h
  ·rename_i h1 h2; rw [h1, Z5i h2]; exact h
  ·exact h.elim
 ·exact h.elim
theorem Zru {s1 : St} {x : Blk} {K : D -> Prop} {op : Op} (h : Z1q A T s1 K op) : Z1q A T { s1 with H := s1.H ++ [x] } K op := by
 by_cases hl : Z9j op = true
 ·cases op <;> simp [Z9j] at hl
  case load t a =>
   simp only [Z1q] at h ⊢
   split at h
   ·exact Zum h
   ·exact h.elim
  case lookup t a i ok =>
   simp only [Z1q] at h ⊢
   split at h
   ·exact Zrt h
   ·exact h.elim
 ·exact (Zdx (s1 := s1) (s2 := { s1 with H := s1.H ++ [x] }) rfl (by simpa using hl)).mpr h
def Zrv (A : Ar) (T : TT) (ops : Array Oper) (s : St) (u : Nat × PK) : Prop :=
 match u.2 with
 | .val d => (match ops[u.1]? with | some o => (match Z9j o.op with | true => Z9i A T ops (s.only (o.looksAt ops)) o (fun x => x = d) | false => True) | none => False)
 | .alc k x _ => Z1m s.H k = some x
def Z7f (A : Ar) (T : TT) (ops : Array Oper) (s : St) : List (Nat × PK) -> Prop
 | [] => True
 | u :: r => Zrv A T ops s u /\ Z7f A T ops s r
theorem Zad : ∀ {l : List (Nat × PK)}, Z7f A T ops s l -> ∀ u ∈ l, Zrv A T ops s u
 | [], _, u, hu => by simp at hu
 | v :: r, h, u, hu => by
  rcases List.mem_cons.1 hu with rfl | hu
  ·exact h.1
  ·exact Zad h.2 u hu
theorem Zdy {s1 s2 : St} (h : s2.env = s1.env) {o : Oper} {K1 K2 K1' K2' : St -> Prop} (hg : Zh ops s1 o K1 K2) (h1 : ∀ e, K1 { s1 with env := e } -> K1' { s2 with env := e }) (h2 : ∀ e, K2 { s1 with env := e } -> K2' { s2 with env := e }) : Zh ops s2 o K1' K2' := by
 have e1 : ({ s2 with env := s1.env } : St) = s2 := by rw [<- h]
 have h10 := h1 s1.env;have h20 := h2 s1.env;rw [e1] at h10 h20;unfold Zh at hg ⊢;rw [h]
 split at hg
 ·exact h10 hg
 ·split at hg
  ·exact h20 hg
  ·split at hg
   ·exact h20 hg
   ·split at hg
    ·split at hg <;> split at hg <;> first | exact h1 _ hg | exact h2 _ hg
    ·exact h20 hg
    ·exact hg.elim
theorem Zeh {u : Nat × PK} {o : Oper} {d : D} {H' : List Blk} {ds : List AD} (hw : ∀ o' t, ops[u.1]? = some o' -> o.dst = some t -> o'.dst ≠ some t /\ t ∉ o'.looksAt ops) (h : POk ar T ops s u) (hp : Zrv ar T ops (s.step o.dst d H' ds) u) : POk ar T ops (s.step o.dst d H' ds) u := by
 obtain ⟨o', h1, h2, h3, h4⟩ := h.out;have he : ((s.step o.dst d H' ds).only (o'.looksAt ops)).env = (s.only (o'.looksAt ops)).env := Zce fun t ht => (hw o' t h1 ht).2;refine ⟨o', h1, h2, fun t ht => ?_, ?_⟩
 ·show Z1c (Z9c s.env o.dst d) t = _;rw [Z5o, if_neg (fun e => (hw o' t h1 e).1 ht)]; exact h3 t ht
 ·obtain ⟨i, pk⟩ := u
  cases pk with
  | val d' =>
   simp only at h4 h1 ⊢;simp only [Zrv, h1] at hp
   cases hl : Z9j o'.op with
   | true => rw [hl] at hp; exact hp
   | false =>
    unfold Z9i at h4 ⊢;exact Zdy he h4 (fun e hv => (Zdx (s1 := { s.only (o'.looksAt ops) with env := e }) (s2 := { (s.step o.dst d H' ds).only (o'.looksAt ops) with env := e }) rfl hl).mpr hv) (fun e hv => hv)
  | alc k x d' =>
   simp only at h4 ⊢;exact ⟨Zgz he h4.1, hp, h4.2.2⟩
theorem Zo4 {u : Nat × PK} {o : Oper} {d : D} {x : Blk} (hw : ∀ o' t, ops[u.1]? = some o' -> o.dst = some t -> o'.dst ≠ some t /\ t ∉ o'.looksAt ops) (h : POk ar T ops s u) : POk ar T ops (s.step o.dst d (s.H ++ [x]) s.dfs) u := by
 refine Zeh hw h ?_;obtain ⟨o', h1, h2, h3, h4⟩ := h.out;obtain ⟨i, pk⟩ := u
 cases pk with
 | val d' =>
  simp only at h1 h4;simp only [Zrv, h1]
  cases hl : Z9j o'.op with
  | false => trivial
  | true =>
   have he : ((s.step o.dst d (s.H ++ [x]) s.dfs).only (o'.looksAt ops)).env = (s.only (o'.looksAt ops)).env := Zce fun t ht => (hw o' t h1 ht).2;unfold Z9i at h4 ⊢;refine Zdy he h4 (fun e hv => ?_) (fun e hv => hv);exact Zru (s1 := { s.only (o'.looksAt ops) with env := e }) hv
 | alc k y d' => exact Z5i h4.2.1
theorem Zh1 {s1 : St} {K K' : Blk -> (Nat -> D) -> Prop} {op : Op} (h : Z5g A T s1 K op) (hk : ∀ x mk, K x mk -> K' x mk) : Z5g A T s1 K' op := by
 cases op <;> try exact h.elim
 case alloc t =>
  simp only [Z5g] at h ⊢
  split at h
  ·split at h
   ·exact hk _ _ h
   ·exact h.elim
  ·exact h.elim
 case box t x =>
  simp only [Z5g] at h ⊢
  split at h
  ·split at h
   ·exact hk _ _ h
   ·exact h.elim
  ·exact h.elim
 case buildSlice t n parts =>
  simp only [Z5g, Zpd] at h ⊢
  split at h
  ·split at h
   ·split at h
    ·split at h
     ·split at h
      ·exact hk _ _ h
      ·exact hk _ _ h
     ·exact h.elim
    ·exact h.elim
   ·exact h.elim
  ·exact h.elim
 case makeSlice t n c =>
  simp only [Z5g, Zpe] at h ⊢
  split at h
  ·split at h
   ·split at h
    ·obtain ⟨h1, h2, h3⟩ := h;refine ⟨h1, h2, ?_⟩
     split at h3
     ·exact hk _ _ h3
     ·exact h3.elim
    ·exact h.elim
   ·exact h.elim
  ·exact h.elim
theorem Zka {s1 : St} {K : Blk -> (Nat -> D) -> Prop} {op : Op} (h : Z5g ar T s1 K op) (hT : TOK P T) : ∃ x mk, K x mk /\ BFr x /\ Z5g ar T s1 (fun y mk' => y = x /\ mk' = mk) op := by
 cases op <;> try exact h.elim
 case alloc t =>
  simp only [Z5g] at h ⊢
  split at h
  ·rename_i e he
   split at h
   ·rename_i hb; exact ⟨_, _, h, (fun _ _ e => by cases e), by simp only [he, hb, and_self]⟩
   ·exact h.elim
  ·exact h.elim
 case box t x =>
  simp only [Z5g] at h ⊢
  split at h
  ·rename_i e he
   split at h
   ·rename_i hb; exact ⟨_, _, h, (fun _ _ e => by cases e), by simp only [he, hb, and_self]⟩
   ·exact h.elim
  ·exact h.elim
 case buildSlice t n parts =>
  simp only [Z5g, Zpd] at h ⊢
  split at h
  ·rename_i e he
   split at h
   ·rename_i el hel
    split at h
    ·rename_i e2 he2
     split at h
     ·rename_i es sz h1 h2 h3
      split at h
      ·rename_i hf
       exact ⟨_, _, h, (fun _ _ e => by cases e; exact ⟨Z30.1 hf⟩), by simp only [he, hel, he2, h1, h2, h3, hf, and_self]⟩
      ·rename_i hf
       exact ⟨_, _, h, (fun _ _ e => by cases e), by simp only [he, hel, he2, h1, h2, h3, hf, and_self]⟩
     ·exact h.elim
    ·exact h.elim
   ·exact h.elim
  ·exact h.elim
 case makeSlice t n c =>
  simp only [Z5g, Zpe] at h ⊢
  split at h
  ·rename_i e k i he hs hn
   split at h
   ·rename_i el hel
    split at h
    ·rename_i e2 he2
     obtain ⟨h1, h2, h3⟩ := h
     split at h3
     ·rename_i xs hxs
      obtain ⟨_, _, z, _, _, _, _, _, _, hz, _⟩ := hT.at he2;exact ⟨_, _, h3, (fun _ _ e => by cases e; exact .rep (by rw [hz]; exact Znu z)), by simp only [he, hs, hn, hel, he2, hxs, and_self, and_true]; exact ⟨h1, h2⟩⟩
     ·exact h3.elim
    ·exact h.elim
   ·exact h.elim
  ·exact h.elim
end
end Go.Abs

namespace Go.Abs
open Go
def Z4s (ops : Array Oper) (o : Oper) : List (Nat × PK) -> Bool
 | [] => true
 | u :: r =>
  match ops[u.1]? with
  | some o' =>
   match o'.dst with
   | some t => (match Z7a (o.looksAt ops) t, Z7a (ons o) u.1 with | true, false => false | _, _ => Z4s ops o r)
   | none => Z4s ops o r
  | none => Z4s ops o r
def Z2l (ops : Array Oper) (o : Oper) : List (Nat × PK) -> Bool
 | [] => true
 | u :: r =>
  match o.dst, ops[u.1]? with
  | some t, some o' => (match (match o'.dst with | some t' => Nat.beq t' t | none => false), Z7a (o'.looksAt ops) t with | false, false => Z2l ops o r | _, _ => false)
  | _, _ => Z2l ops o r
def Zdz (ops : Array Oper) (o : Oper) : Bool :=
 match o.dst with
 | some t => (match Z7a (o.looksAt ops) t with | true => false | false => true)
 | none => true
def Zrw (p : Nat -> Bool) : List Nat -> Bool
 | [] => false
 | i :: r => (match p i with | true => true | false => Zrw p r)
def Z8n (ops : Array Oper) (i : Nat) (L : List Nat) : Bool := allB (fun i' => match ops[i']? with | some o' => Zrw (fun e => Z7a (i :: L) e) (ons o') | none => true) L
def Z1j (o : Oper) : List (Nat × PK) -> List (Nat × PK)
 | [] => []
 | u :: r => (match Z7a (ons o) u.1 with | true => Z1j o r | false => u :: Z1j o r)
def Z7v (A : Ar) (T : TT) (ops : Array Oper) (K : List (Nat × PK) -> St -> Prop) (pend : List (Nat × PK)) (s : St) : Prop := Z7f A T ops s pend /\ K pend s
def vcD (A : Ar) (T : TT) (ops : Array Oper) (Kend : St -> Prop) (Dk : List Nat -> List (Nat × PK) -> St -> Prop) : List Nat -> List (Nat × PK) -> St -> Prop
 | [], _, s => Kend s
 | i :: L, pend, s =>
  match ops[i]? with
  | none => False
  | some o =>
   match Z36 s.nt o.dst, Z4s ops o pend with
   | true, true =>
    match Zr4 o.op, Z2l ops o pend && Zdz ops o with
    | 1, true => Zh ops s o (fun s => match Zo1 (s.only (o.looksAt ops)) o.op with
      | true => Z1q A T (s.only (o.looksAt ops)) (fun d => vcD A T ops Kend Dk L ((i, .val d) :: pend) (s.step o.dst d s.H s.dfs)) o.op
      | false => False) (fun s => vcD A T ops Kend Dk L ((i, .val (.tup [])) :: pend) (s.step o.dst (.tup []) s.H s.dfs))
    | 2, true => Zh ops s o (fun s => Z5g A T (s.only (o.looksAt ops)) (fun x mk => vcD A T ops Kend Dk L ((i, .alc s.H.length x (mk s.H.length)) :: pend) (s.step o.dst (mk s.H.length) (s.H ++ [x]) s.dfs)) o.op)
      (fun s => vcD A T ops Kend Dk L ((i, .val (.tup [])) :: pend) (s.step o.dst (.tup []) s.H s.dfs))
    | 1, false =>
     match Z2l ops o (Z1j o pend), Z8n ops i L with
     | true, true => Zh ops s o (fun s => Z1q A T (s.only (o.looksAt ops)) (fun d => Z7v A T ops (fun p s => vcD A T ops Kend Dk L p s) (Z1j o pend) (s.step o.dst d s.H s.dfs)) o.op) (fun s => Z7v A T ops (fun p s => vcD A T ops Kend Dk L p s) (Z1j o pend) (s.step o.dst (.tup []) s.H s.dfs))
     | _, _ => False
    | 3, _ =>
     match Z2l ops o (Z1j o pend), Z8n ops i L with
     | true, true => Zh ops s o (fun s => wA A T (s.only (o.looksAt ops)) (fun d H' => Z7v A T ops (fun p s => vcD A T ops Kend Dk L p s) (Z1j o pend) (s.step o.dst (d.getD (.tup [])) H' s.dfs)) o.op) (fun s => Z7v A T ops (fun p s => vcD A T ops Kend Dk L p s) (Z1j o pend) (s.step o.dst (.tup []) s.H s.dfs))
     | _, _ => False
    | _, _ => Dk (i :: L) pend s
   | _, _ => False
section
variable {P : Program} {T : TT} {r : Option Nat} {m : Nat} {ops : Array Oper} {Q : AX -> St -> Prop} {s : St} {A : Ar}
theorem Z23 {o : Oper} : ∀ {pend : List (Nat × PK)}, Z4s ops o pend = true -> LooksOk ops o pend
 | [], _ => ⟨fun u hu => by simp at hu⟩
 | v :: r, h => by
  simp only [Z4s] at h;refine ⟨fun u hu o' t h1 h2 h3 => ?_⟩;rcases List.mem_cons.1 hu with rfl | hu
  ·simp only [h1, h2] at h
   split at h
   ·cases h
   ·rename_i hne
    rw [(Z3w _ _).2 h3] at hne
    cases hb : Z7a (ons o) u.1 with
    | true => exact (Z3w _ _).1 hb
    | false => exact absurd hb (fun hb => hne rfl hb)
  ·have hr : Z4s ops o r = true := by
    split at h
    ·split at h
     ·split at h
      ·cases h
      ·exact h
     ·exact h
    ·exact h
   exact (Z23 hr).out u hu o' t h1 h2 h3
theorem Z1t {o : Oper} : ∀ {pend : List (Nat × PK)}, Z2l ops o pend = true -> WritesOk ops o pend
 | [], _ => ⟨fun u hu => by simp at hu⟩
 | v :: r, h => by
  simp only [Z2l] at h;refine ⟨fun u hu o' t h1 h2 => ?_⟩;rcases List.mem_cons.1 hu with rfl | hu
  ·simp only [h1, h2] at h
   split at h
   ·rename_i g1 g2
    refine ⟨fun e => ?_, fun e => by rw [(Z3w _ _).2 e] at g2; cases g2⟩;rw [e] at g1;simp only [Nat.beq_refl] at g1
    cases g1
   ·cases h
  ·have hr : Z2l ops o r = true := by
    split at h
    ·split at h
     ·exact h
     ·cases h
    ·exact h
   exact (Z1t hr).out u hu o' t h1 h2
theorem Z3s {o : Oper} (h : Zdz ops o = true) : ∀ t, o.dst = some t -> t ∉ o.looksAt ops := fun t ht hm => by
 simp only [Zdz, ht, (Z3w _ _).2 hm] at h
 cases h
theorem Zfj {p : Nat -> Bool} : ∀ {l : List Nat}, Zrw p l = true -> ∃ i ∈ l, p i = true
 | [], h => by cases h
 | i :: r, h => by
  simp only [Zrw] at h
  split at h
  ·rename_i hi; exact ⟨i, by simp, hi⟩
  ·obtain ⟨j, h1, h2⟩ := Zfj h; exact ⟨j, by simp [h1], h2⟩
theorem Zio {i : Nat} {L : List Nat} (h : Z8n ops i L = true) : ∀ i' ∈ L, ∀ o', ops[i']? = some o' -> ∃ e ∈ ons o', e = i ∨ e ∈ L := fun i' hi o' ho => by
 have h1 := Z70.1 h i' hi;simp only [ho] at h1;obtain ⟨e, h2, h3⟩ := Zfj h1;exact ⟨e, h2, by simpa using (Z3w _ _).1 h3⟩
theorem Zae {o : Oper} : ∀ {pend : List (Nat × PK)}, ∀ u ∈ pend, u ∈ Z1j o pend ∨ u.1 ∈ ons o
 | [], u, hu => by simp at hu
 | v :: r, u, hu => by
  simp only [Z1j];rcases List.mem_cons.1 hu with rfl | hu
  ·split
   ·rename_i h; exact .inr ((Z3w _ _).1 h)
   ·exact .inl (by simp)
  ·rcases Zae (o := o) u hu with h | h
   ·split
    ·exact .inl h
    ·exact .inl (by simp [h])
   ·exact .inr h
theorem Z5p {i : Nat} {L : List Nat} {pend : List (Nat × PK)} {o : Oper} (ho : ops[i]? = some o) (hd : Z36 s.nt o.dst = true) (hl : Z4s ops o pend = true) (hw : Z2l ops o (Z1j o pend) = true) (hr : Z8n ops i L = true)
  (hk : Zh ops (s.only (o.looksAt ops)) o (fun s' => OpA P r o s' (fun d H' ds => Z7v ar T ops (fun p s => DrawA P T r m ops Q L p s) (Z1j o pend) (s.step o.dst d H' ds)) (fun d H' => ∀ e, Q (.pan d) { env := e, H := H', nt := s.nt, dfs := s.dfs })) (fun _ => Z7v ar T ops (fun p s => DrawA P T r m ops Q L p s) (Z1j o pend) (s.step o.dst (.tup []) s.H s.dfs))) : DrawA P T r m ops Q (i :: L) pend s := by
 have hw' := Z1t hw;exact .eff (K := fun d H' ds => Z7v ar T ops (fun p s => DrawA P T r m ops Q L p s) (Z1j o pend) (s.step o.dst d H' ds)) (Z1j o pend) ho hd (Z23 hl) hw' (fun u hu => Zae u hu) (Zio hr) hk
  (fun d H' ds hK u hu hok => Zeh (fun o' t h1 h2 => hw'.out u hu o' t h1 h2) hok (Zad hK.1 u hu)) (fun d H' ds hK => hK.2)
theorem Z6r (hT : TOK P T) {Kend : St -> Prop} (hK : ∀ s, Kend s -> Q .normal s) {Dk : List Nat -> List (Nat × PK) -> St -> Prop} (hD : ∀ L pend s, Dk L pend s -> DrawA P T r m ops Q L pend s) : ∀ (L : List Nat) (pend : List (Nat × PK)) (s : St), vcD ar T ops Kend Dk L pend s -> DrawA P T r m ops Q L pend s
 | [], pend, s, h => .done (hK s h)
 | i :: L, pend, s, h => by
  simp only [vcD] at h;have aft : ∀ {p : List (Nat × PK)} {s : St}, Z7v ar T ops (fun p s => vcD ar T ops Kend Dk L p s) p s -> Z7v ar T ops (fun p s => DrawA P T r m ops Q L p s) p s := fun h => ⟨h.1, Z6r hT hK hD L _ _ h.2⟩
  split at h
  ·exact h.elim
  ·rename_i o ho
   split at h
   ·rename_i hd hl
    have skip : ∀ {d : D}, d = .tup [] -> (Z2l ops o pend && Zdz ops o) = true -> (∀ K1 K2 : St -> Prop, K2 s -> Zh ops s o K1 K2) -> vcD ar T ops Kend Dk L ((i, .val d) :: pend) (s.step o.dst d s.H s.dfs) -> DrawA P T r m ops Q (i :: L) pend s := fun {d} e hws hg hk => by
     subst e;simp only [Bool.and_eq_true] at hws;exact .val ho hd (Z23 hl) (Z1t hws.1) (Z3s hws.2) (Z4n hg rfl) (Z6r hT hK hD L _ _ hk)
    split at h
    ·rename_i hws
     rcases Z3q h with ⟨hk, hg⟩ | ⟨hk, hg⟩
     ·split at hk
      ·rename_i hdet
       obtain ⟨d, h1, h2⟩ := Zk4 hdet hk;simp only [Bool.and_eq_true] at hws;exact .val ho hd (Z23 hl) (Z1t hws.1) (Z3s hws.2) (Z3r hg h2) (Z6r hT hK hD L _ _ h1)
      ·exact hk.elim
     ·exact skip rfl hws hg hk
    ·rename_i hws
     rcases Z3q h with ⟨hk, hg⟩ | ⟨hk, hg⟩
     ·obtain ⟨x, mk, h1, h2, h3⟩ := Zka hk hT;simp only [Bool.and_eq_true] at hws;have hw := Z1t hws.1;refine .alc ho hd (Z23 hl) hw (Z3s hws.2) h2 (Z3r hg (Zh1 h3 fun y mk' e => ⟨e.1, by rw [e.2]⟩)) (fun u hu hok => Zo4 (fun o' t h1 h2 => hw.out u hu o' t h1 h2) hok) (Z6r hT hK hD L _ _ h1)
     ·exact skip rfl hws hg hk
    ·split at h
     ·rename_i hw hr
      refine Z5p ho hd hl hw hr ?_;rcases Z3q h with ⟨hk, hg⟩ | ⟨hk, hg⟩
      ·refine Z3r hg ?_;have := Zeg (P := P) (r := r) (o := o) (s := s.only (o.looksAt ops)) (K := fun d H' ds => Z7v ar T ops (fun p s => vcD ar T ops Kend Dk L p s) (Z1j o pend) (s.step o.dst d H' ds)) (X := fun _ _ => False) hT hk;exact this.mono (fun d H ds hk => aft hk) (fun _ _ h => h.elim)
      ·exact Z4n hg (aft hk)
     ·exact h.elim
    ·split at h
     ·rename_i hw hr
      refine Z5p ho hd hl hw hr ?_;rcases Z3q h with ⟨hk, hg⟩ | ⟨hk, hg⟩
      ·refine Z3r hg ?_;have := Zgs (P := P) (r := r) (o := o) (s := s.only (o.looksAt ops)) (K := fun d H' ds => Z7v ar T ops (fun p s => vcD ar T ops Kend Dk L p s) (Z1j o pend) (s.step o.dst d H' ds)) (X := fun _ _ => False) hT hk;exact this.mono (fun d H ds hk => aft hk) (fun _ _ h => h.elim)
      ·exact Z4n hg (aft hk)
     ·exact h.elim
    ·exact hD _ _ _ h
   ·exact h.elim
end
end Go.Abs

namespace Go.Abs
open Go
section
variable {P : Program} {T : TT} {r : Option Nat} {m : Nat} {ops : Array Oper} {Q : AX -> St -> Prop} {s : St}
theorem Z16 (hT : TOK P T) {A : Ar} (hA : A = ar) {S : Stop} (hS : S = Zo P r m) (L : List Nat) {id : Nat} (hE : Zim ops = true) (hL : Zh0 ops.size L = true)
  (h : ∀ Dk, Dk = DrawA P T r m ops Q -> vcD A T ops (Q .normal) Dk L [] s) : S.code (.region id ops true) Q s := by
 subst hA; subst hS;exact Zk9 hT hE hL (Z6r hT (fun _ h => h) (fun _ _ _ h => h) L [] s (h _ rfl))
theorem Zx (hT : TOK P T) {A : Ar} (hA : A = ar) {Dk : List Nat -> List (Nat × PK) -> St -> Prop} (hD : Dk = DrawA P T r m ops Q) {L : List Nat} {pend : List (Nat × PK)} (h : vcD A T ops (Q .normal) Dk L pend s) : DrawA P T r m ops Q L pend s := by
 subst hA; subst hD;exact Z6r hT (fun _ h => h) (fun _ _ _ h => h) L pend s h
theorem Zq {A : Ar} (hA : A = ar) {Dk : List Nat -> List (Nat × PK) -> St -> Prop} (hD : Dk = DrawA P T r m ops Q) {i : Nat} {L : List Nat} {pend : List (Nat × PK)} {o : Oper} {c : Call} {fo : Operand} {f : FuncId} {caps as0 : List D} (as' : List D) (ix : List Nat) (Hf : List Blk)
  (hoi : ops[i]? = some o) (hd : Z36 s.nt o.dst = true) (hlk : Z4s ops o pend = true) (hw : Z2l ops o (Z1j o pend) = true) (hrd : Z8n ops i L = true) (hg : o.guard = none) (ho : o.op = .call c) (hc : c.callee = .value fo)
  (hfo : evo (rE s.env (o.looksAt ops)) fo = some (.fn f caps)) (has : Z34 (c.args.toList.map (evo (rE s.env (o.looksAt ops)))) = some as0)
  (hren : renL (rho ix s.H.length) as' = as0 ++ caps) (hnd : ix.Nodup) (hl : Z62 (rho ix s.H.length) s.H ix Hf)
  (h : CallA P f as' Hf (fun x Hf' => match x with | .ret d => Z7f A T ops (s.step o.dst (renD (rho ix s.H.length) d) (Z10 s.H ix Hf') s.dfs) (Z1j o pend) /\ DrawA P T r m ops Q L (Z1j o pend) (s.step o.dst (renD (rho ix s.H.length) d) (Z10 s.H ix Hf') s.dfs) | .pan _ => False)) : Dk (i :: L) pend s := by
 subst hA; subst hD;refine Z5p hoi hd hlk hw hrd ?_;simp only [Zh, hg];refine Z7t (s := s.only (o.looksAt ops)) ho hc hfo has hren hnd hl ⟨h.fn, fun F μ vs w h1 h2 h3 => CallsIn.mono (h.out F μ vs w h1 h2 h3) fun e w' he => ?_⟩
 cases e with
 | returned v => exact he
 | panicked ch => obtain ⟨_, _, _, _, _, _, _, _, hf⟩ := he; exact hf.elim
 | outgrown => exact he.elim
end
end Go.Abs

namespace Go.Abs
open Go
structure RoundA (P : Program) (k : Nat) (as : List D) (H : List Blk) (Q : RA -> List Blk -> Prop) : Prop where
 out : ∀ (r : Option Nat) F μ (vs : Array Value) w b m, HR F μ H w -> μ k = some (some (b, m)) -> as.length = vs.size -> (∀ (i : Nat) (d : D) (v : Value), as[i]? = some d -> vs[i]? = some v -> VR F μ d v) ->
  ∃ fn tmps assign body, (Instr.yield b vs).run P w = .ok (.round b fn tmps assign body) w /\ RoundIn (Fc r) 0 P b fn tmps assign body w (Zb7 F μ H w Q)
def Zo5 : List Nat -> List D -> List (Nat × D) -> List (Nat × D)
 | t :: ps, d :: as, e => Zo5 ps as (setE e t d)
 | _, _, e => e
section
variable {P : Program} {T : TT} {F : Fz} {μ : Mu} {w : World} {r : Option Nat} {m : Nat} {Q : AX -> St -> Prop}
theorem Ze0 : ∀ (ps : List Nat) (as : List D) (vs : List Value) (env : List (Nat × D)) (tmps : Array Value), (∀ t d, Z1c env t = some d -> ∃ v, tmps[t]? = some v /\ VR F μ d v) -> as.length = vs.length ->
  (∀ (i : Nat) (d : D) (v : Value), as[i]? = some d -> vs[i]? = some v -> VR F μ d v) -> (∀ t ∈ ps, t < tmps.size) -> ps.length = as.length ->
  (∀ t d, Z1c (Zo5 ps as env) t = some d -> ∃ v, ((ps.zip vs).foldl (fun tmps (x : Nat × Value) => tmps.setIfInBounds x.1 x.2) tmps)[t]? = some v /\ VR F μ d v) /\ ((ps.zip vs).foldl (fun tmps (x : Nat × Value) => tmps.setIfInBounds x.1 x.2) tmps).size = tmps.size
 | [], as, vs, env, tmps, h, _, _, _, _ => ⟨by cases as <;> exact h, by simp⟩
 | t :: ps, [], vs, env, tmps, h, _, _, _, hl => by simp at hl
 | t :: ps, d :: as, [], env, tmps, h, hl, _, _, _ => by simp at hl
 | t :: ps, d :: as, v :: vs, env, tmps, h, hl, hv, hp, hl2 => by
  have := Ze0 ps as vs (setE env t d) (tmps.setIfInBounds t v) (fun t' d' hd => by
   rw [Z5n] at hd
   rw [Array.getElem?_setIfInBounds]
   split at hd
   ·rename_i e; subst e; cases hd
    exact ⟨v, by rw [if_pos rfl, if_pos (hp t (by simp))], hv 0 d v rfl rfl⟩
   ·rename_i e
    obtain ⟨u, h1, h2⟩ := h t' d' hd
    exact ⟨u, by rw [if_neg e]; exact h1, h2⟩) (by simpa using hl) (fun i d' v' h1 h2 => hv (i + 1) d' v' (by simpa using h1) (by simpa using h2)) (fun t' ht' => by rw [Array.size_setIfInBounds]; exact hp t' (by simp [ht'])) (by simpa using hl2)
  refine ⟨fun t' d' hd => ?_, ?_⟩
  ·obtain ⟨u, h1, h2⟩ := this.1 t' d' hd;exact ⟨u, by simpa using h1, h2⟩
  ·have h2 := this.2;rw [Array.size_setIfInBounds] at h2;simpa using h2
def Zrx (k : Nat) (params : List Nat) (env : List (Nat × D)) (nt : Nat) (assign body : Code) (Q : RA -> List Blk -> Prop) : AX -> St -> Prop
 | .normal, s => (∃ st pend, Z1m s.H k = some (.ob (.lp st pend env nt params assign body))) /\ Q (.ret (.v (.bool true))) (s.H.set k (.ob (.lp .ready none env nt params assign body)))
 | .ret, s => (∃ st pend, Z1m s.H k = some (.ob (.lp st pend env nt params assign body))) /\ Q (.ret (.v (.bool false))) (s.H.set k (.ob (.lp .done (some .ret) env nt params assign body)))
 | .exit id, s => (∃ st pend, Z1m s.H k = some (.ob (.lp st pend env nt params assign body))) /\ Q (.ret (.v (.bool false))) (s.H.set k (.ob (.lp .done (some (.exit id)) env nt params assign body)))
 | _, _ => False
theorem Post.stp {F' : Fz} {μ' : Mu} {H H' : List Blk} {w' : World} (h : Post F μ H w F' μ' H' w') (k : Kp H.length μ H μ' H') (hr : HR F' μ' H' w') (hl : H.length <= H'.length) : Stp F μ H w F' μ' H' w' := ⟨h, hr, hl, k.same, fun i hi => k.mks i (Z2p hi) hi⟩
theorem Zpn {k nt : Nat} {as : List D} {H : List Blk} {env : List (Nat × D)} {params : List Nat} {assign body : Code} {Q : RA -> List Blk -> Prop} (hk : Z1m H k = some (.ob (.lp .ready none env nt params assign body))) (hl : params.length = as.length) (hp : ∀ t ∈ params, t < nt)
  (h : ∀ b, WpA P (some b) H.length assign (Zb1 (fun s => Z1m s.H k = some (.ob (.lp .ready none env nt params assign body)) /\ WpA P (some b) H.length body (Zrx k params env nt assign body Q) { s with H := s.H.set k (.ob (.lp .busy none env nt params assign body)) }) (fun _ _ => False))
   { env := Zo5 params as env, H := H, nt := nt, dfs := [] }) : RoundA P k as H Q := by
 refine ⟨fun r F μ vs w b m hr hμ hal hv => ?_⟩;have hok := Z42 hk;obtain ⟨b', rec, h1, h2, h3, h4, h5, h6, h8, h9, h10, h7⟩ := hr.obj k _ hok (by rw [hμ]; simp);rw [hμ] at h1; cases h1;have hsz : vs.size = rec.params.size := by rw [<- hal, <- hl, <- h5]; simp
 have hrun := run_yield (P := P) h2 hsz;refine ⟨_, _, _, _, hrun, ?_⟩;obtain ⟨q1, q2⟩ := Ze0 (F := F) (μ := μ) params as vs.toList env rec.tmps h10 (by simpa using hal) (fun i d v a c => hv i d v a (by simpa using c)) (by rw [h9]; exact hp) hl;have hfold : (rec.params.zip vs).foldl (fun tmps (x : Nat × Value) => tmps.setIfInBounds x.1 x.2) rec.tmps = (params.zip vs.toList).foldl (fun tmps (x : Nat × Value) => tmps.setIfInBounds x.1 x.2) rec.tmps := by
  rw [<- h5, <- Array.toList_zip, Array.foldl_toList]
 have e0 : (Fc r).inRound b = Fc (some b) := rfl;refine roundIn_of_wpIn trivial ?_;rw [e0, h6, h8];have hfold' : (rec.params.zip vs).foldl (fun tmps (x : Tmp × Value) => match x with | (t, a) => tmps.setIfInBounds t a) rec.tmps = (params.zip vs.toList).foldl (fun tmps (x : Nat × Value) => tmps.setIfInBounds x.1 x.2) rec.tmps := hfold;rw [hfold'];refine wpIn_mono ((h b).out F μ _ w ⟨hr, ⟨q1, by rw [q2, h9], rfl⟩, Nat.le_refl _⟩) fun e a1 w1 hq => ?_;obtain ⟨F1, μ1, s1, x1, p1, p2, p3, p4, p5⟩ := hq
 cases e <;> cases x1 <;> try exact p4.elim
 case normal.normal =>
  obtain ⟨g1, g2⟩ := p5;have gk := Z42 g1;have hμ1 : μ1 k = some (some (b, 0)) := by rw [p2.same k (Z2p hok)]; exact hμ
  obtain ⟨b2, rec1, i1, i2, i3, i4, i5, i6, i8, i9, i10, i7⟩ := p3.hr.obj k _ gk (by rw [hμ1]; simp);rw [hμ1] at i1; cases i1;refine ⟨_, run_beginRound (P := P) i2 i3, ?_⟩;obtain ⟨u1, u2⟩ := Zbc p3.hr (y := .lp .busy none env nt params assign body) (o := .loop { rec1 with state := .busy }) gk hμ1 i7 (w' := w1.putObj b (.loop { rec1 with state := .busy })) rfl rfl rfl rfl (fun hb => ⟨b, _, hμ1, hb, rfl, i4, i5, i6, i8, i9, i10, i7⟩);have hmk : ∀ i, Z13 s1.H i = some .mk -> Z13 (s1.H.set k (.ob (.lp .busy none env nt params assign body))) i = some .mk := fun i hi => Z48 (y := .mk) gk (by intro e; cases e) _ hi;have hrl : RL H.length F1 μ1 { s1 with H := s1.H.set k (.ob (.lp .busy none env nt params assign body)) } a1 (w1.putObj b (.loop { rec1 with state := .busy })) :=
   ⟨u1, ⟨p3.er.env, p3.er.nt, p3.er.dfs.mono (fun _ _ _ e => e) (fun _ _ e => e) (fun i hi => ⟨hmk i hi, fun _ e => e⟩)⟩, by simpa using p3.len⟩
  refine wpIn_mono (g2.out _ _ _ _ hrl) fun e a2 w2 hq2 => ?_;obtain ⟨F2, μ2, s2, x2, t1, t2, t3, t4, t5⟩ := hq2;have post2 := (p1.trans u2).trans t1;have keep2 := (p2.trans (.ob hmk)).trans t2;have fin : ∀ (jump : Option Code) (st' : LoopState) , (∃ st pend, Z1m s2.H k = some (.ob (.lp st pend env nt params assign body))) -> st' = (if jump.isNone then .ready else .done) -> Q (.ret (.v (.bool jump.isNone))) (s2.H.set k (.ob (.lp st' jump env nt params assign body))) ->
    ∃ v w', (Instr.endRound b jump).run P w2 = .ok v w' /\ Zb7 F μ H w Q (.returned v) w' := fun jump st' ⟨st, pend, hkb⟩ hst hq => by
   have gk2 := Z42 hkb;have hμ2 : μ2 k = some (some (b, 0)) := by rw [keep2.same k (Z2p hok)]; exact hμ
   obtain ⟨b3, rec2, j1, j2, j3, j4, j5, j6, j8, j9, j10, j7⟩ := t3.hr.obj k _ gk2 (by rw [hμ2]; simp);rw [hμ2] at j1; cases j1;obtain ⟨v1, v2⟩ := Zbc t3.hr (y := .lp st' jump env nt params assign body) (o := .loop { rec2 with state := if jump.isNone then .ready else .done, pending := jump }) gk2 hμ2 j7 (w' := w2.putObj b (.loop { rec2 with state := if jump.isNone then .ready else .done, pending := jump })) rfl rfl rfl rfl (fun hb => ⟨b, _, hμ2, hb, hst.symm, rfl, j5, j6, j8, j9, j10, j7⟩);have hmk2 : ∀ i, Z13 s2.H i = some .mk -> Z13 (s2.H.set k (.ob (.lp st' jump env nt params assign body))) i = some .mk := fun i hi => Z48 (y := .mk) gk2 (by intro e; cases e) _ hi;exact ⟨_, _, run_endRound jump j2, F2, μ2, _, _, (post2.trans v2).stp (keep2.trans (.ob hmk2)) v1 (by simpa using t3.len), .cl _ _ (.v _ rfl), hq⟩
  cases e <;> cases x2 <;> try exact t4.elim
  case normal.normal => exact fin none .ready t5.1 rfl t5.2
  case ret.ret => exact fin (some .ret) .done t5.1 rfl t5.2
  case exit.exit i j =>
   obtain rfl : i = j := t4;exact fin (some (.exit i)) .done t5.1 rfl t5.2
  all_goals exact t5.elim
 all_goals exact p5.elim
theorem Zpo {o : Oper} {s : St} {K : D -> List Blk -> List AD -> Prop} {X : D -> List Blk -> Prop} {c : Call} {fo : Operand} {k k' : Nat} {as0 as' : List D} {ix : List Nat} {Hf : List Blk}
  (ho : o.op = .call c) (hc : c.callee = .value fo) (hfo : evo s.env fo = some (.yv k')) (hkk : Z9f ix k = some k') (has : Z34 (c.args.toList.map (evo s.env)) = some as0) (hren : renL (rho ix s.H.length) as' = as0)
  (hnd : ix.Nodup) (hl : Z62 (rho ix s.H.length) s.H ix Hf)
  (h : RoundA P k as' Hf (fun x Hf' => match x with | .ret d => K (renD (rho ix s.H.length) d) (Z10 s.H ix Hf') s.dfs | .pan d => X (renD (rho ix s.H.length) d) (Z10 s.H ix Hf'))) : OpA P r o s K X := by
 refine ⟨fun F μ a w hr he next Q hn hp => ?_⟩;have hlent : Lent s.H ix Hf := ⟨hnd, (Z11 hl).1, (Z11 hl).2, Zab (Z11 hl).1 (Z11 hl).2 hr⟩;have hfv := he.evo hfo;obtain ⟨b, m, hfe, hμ⟩ : ∃ b m, a.eval fo = .func (.yield b) #[] #[] /\ μ k' = some (some (b, m)) := by
  generalize a.eval fo = y at hfv
  cases hfv with
  | cl _ _ hc => cases hc
  | yv _ b m h => exact ⟨b, m, rfl, h⟩
 have hav := Zjr he has;have hlen := hav.len;simp at hlen;rw [Z8i] at hkk;obtain ⟨fn, tmps, assign, body, hy, hround⟩ := h.out r F (μ.ren (rho ix s.H.length)) (c.args.map a.eval) w b m (Zac hlent hr) (by rw [Mu.ren_loc, Z4r hkk]; exact hμ) (by
   have h1 := congrArg List.length hren
   rw [Zk] at h1
   rw [h1]; simp; omega) (fun i d v hd hv => by
   have h1 : as0[i]? = some (renD (rho ix s.H.length) d) := by rw [<- hren, Z1g, hd]; rfl
   exact Z2x (hav.get i _ v h1 (by simpa using hv)) d rfl)
 have hrun : (o.semAt r a.eval).run P w = .ok (.round b fn tmps assign body) w := by
  rw [Oper.semAt_eq r a.eval o (fun c e => by rw [ho] at e; cases e)];unfold execOp;rw [ho];simp only [resolve, hc, hfe, Deferred.ofValue, Sem.run_bind, Sem.run_pure, Result.andThen_ok, invoke, Array.empty_append];exact hy
 rw [hrun, Oper.uponIn_round];refine ⟨(fun h => by cases h), RoundIn.mono hround fun e w' he' => ?_⟩
 cases e with
 | returned v =>
  obtain ⟨F', μ', H', d, hs, hv, hq⟩ := he';have hst := Z6q hlent hr hs;have hmu := Z9g (μ := μ) hlent hs.same;exact hn F' _ _ w' s.dfs _ _ v hst (hst.adr hr he.dfs) (Z6p (by rw [hmu]; exact hv)) hq
 | panicked ch =>
  obtain ⟨F', μ', H', d, v, hs, rfl, hv, hq⟩ := he';have hst := Z6q hlent hr hs;have hmu := Z9g (μ := μ) hlent hs.same;exact hp F' _ _ w' _ v hst (Z6p (by rw [hmu]; exact hv)) hq
 | outgrown => exact he'.elim
end
end Go.Abs
