/- The engine, part W: for the plain laws: environments, loops. No condition. -/
import Derived.Test.YtibbceoibcnpcaaGreatEngV
namespace Go.Proofs.YtibbceoibcnpcaaGreat.Eng
open Go

theorem env_nil {P : Program} : EnvOK P [] (fun _ _ => none) := fun f sg h => by simp [Sigs.get] at h
theorem env_cons {P : Program} {f r : Nat} {sg : Sig} {g : List U → Option (List U)} {s : Sigs} {G : FEnv} (h : FnOK P r sg g) (hfr : f % 1000000 = r) (hr : EnvOK P s G) : EnvOK P ((f, sg) :: s) (fun k us => if f = k then g us else G k us) := fun k sk hk => by
  simp only [Sigs.get] at hk
  split at hk
  · rename_i hb; cases hk
    have := Nat.eq_of_beq_eq_true hb; subst this; subst hfr
    simpa using h
  · rename_i hb
    have : ¬ f = k := fun e => hb (by rw [e]; exact beq_self _)
    simpa only [if_neg this] using hr k sk hk

theorem iterP_inv {step : List U → (List U → Prop) → Prop} (Inv : List U → Prop) (m : List U → Nat) (h : ∀ us, Inv us → ∀ R : List U → Prop, (∀ vs, Inv vs → m vs < m us → R vs) → step us R) : ∀ (n : Nat) (us : List U), m us < n → Inv us → iterP step n us
  | 0, us, hn, _ => by omega
  | n + 1, us, hn, hu => h us hu _ fun vs hv hm => iterP_inv Inv m h n vs (by omega) hv

/-- a loop that counts up to n -/
theorem iterP_upto {step : List U → (List U → Prop) → Prop} (n : Nat) (st : Nat → List U) (Pi : Nat → Prop) (h0 : Pi 0) (h : ∀ i, i ≤ n → Pi i → ∀ R : List U → Prop, (i < n → Pi (i + 1) → R (st (i + 1))) → step (st i) R) : ∃ k, iterP step k (st 0) := by
  have key : ∀ k i, i ≤ n → n - i < k → Pi i → iterP step k (st i) := by
    intro k
    induction k with
    | zero => intro i _ hk; omega
    | succ k ih => intro i hi hk hp; exact h i hi hp _ fun hlt hp' => ih (i + 1) (by omega) (by omega) hp'
  exact ⟨n + 1, key (n + 1) 0 (Nat.zero_le _) (by omega) h0⟩

theorem cmpB_eql (a b : Int) : cmpB .eql a b = decide (a = b) := rfl
theorem cmpB_neq (a b : Int) : cmpB .neq a b = !decide (a = b) := rfl
theorem cmpB_lss (a b : Int) : cmpB .lss a b = decide (a < b) := rfl
theorem cmpB_leq (a b : Int) : cmpB .leq a b = decide (a ≤ b) := rfl
theorem cmpB_gtr (a b : Int) : cmpB .gtr a b = decide (b < a) := rfl
theorem cmpB_geq (a b : Int) : cmpB .geq a b = decide (b ≤ a) := rfl
theorem beq_bool (a b : Bool) : (a == b) = decide (a = b) := by cases a <;> cases b <;> rfl
theorem ar_add (a b : Int) : arith .add .i64 a b = IntKind.i64.wrap (a + b) := rfl
theorem ar_sub (a b : Int) : arith .sub .i64 a b = IntKind.i64.wrap (a - b) := rfl
theorem ar_mul (a b : Int) : arith .mul .i64 a b = IntKind.i64.wrap (a * b) := rfl
theorem wrap64 {n : Int} (h : -9223372036854775808 ≤ n) (h' : n ≤ 9223372036854775807) : IntKind.i64.wrap n = n := by rw [IntKind.wrap_i64]; omega

/-- one row after the other is laid -/
theorem copy_step {l : List (List U)} {z : List U} {f : List U → List U} {i n : Nat} (hn : l.length = n) (hi : i < n) (hf : f z = l.getD i []) :
    (l.take i ++ List.replicate (n - i) z).modify i f = l.take (i + 1) ++ List.replicate (n - (i + 1)) z := by
  subst hn
  apply List.ext_getElem?
  intro k
  rw [List.getElem?_modify]
  have hli : l[i]? = some (l.getD i []) := by simp [hi]
  rcases Nat.lt_trichotomy k i with h | h | h
  · simp only [show ¬ i = k from by omega, if_false]
    rw [List.getElem?_append_left (by simp; omega), List.getElem?_append_left (by simp; omega), List.getElem?_take, if_pos h, List.getElem?_take, if_pos (by omega)]; simp
  · subst h
    simp only [if_true]
    rw [List.getElem?_append_right (by simp; omega), List.getElem?_append_left (by simp; omega), List.getElem?_take, if_pos (by omega), hli, List.getElem?_replicate, if_pos (by simp; omega)]
    simp [hf]
  · simp only [show ¬ i = k from by omega, if_false]
    rw [List.getElem?_append_right (by simp; omega), List.getElem?_append_right (by simp; omega), List.getElem?_replicate, List.getElem?_replicate]
    simp only [List.length_take]
    by_cases hk : k < l.length
    · rw [if_pos (by omega), if_pos (by omega)]; rfl
    · rw [if_neg (by omega), if_neg (by omega)]; rfl

mutual
def U.same : U → U → Bool
  | .int a, .int b => decide (a = b)
  | .bool a, .bool b => decide (a = b)
  | .str a, .str b => decide (a = b)
  | .lst a, .lst b => U.sameLL a b
  | _, _ => false
def U.sameL : List U → List U → Bool
  | [], [] => true
  | a :: xs, b :: ys => U.same a b && U.sameL xs ys
  | _, _ => false
def U.sameLL : List (List U) → List (List U) → Bool
  | [], [] => true
  | a :: xs, b :: ys => U.sameL a b && U.sameLL xs ys
  | _, _ => false
end
mutual
theorem U.same_eq : ∀ (a b : U), U.same a b = true → a = b
  | .int a, .int b, h => by simp [U.same] at h; rw [h]
  | .bool a, .bool b, h => by simp [U.same] at h; rw [h]
  | .str a, .str b, h => by simp [U.same] at h; rw [h]
  | .lst a, .lst b, h => by rw [U.sameLL_eq a b (by simpa [U.same] using h)]
  | .int _, .bool _, h | .int _, .str _, h | .int _, .lst _, h | .bool _, .int _, h | .bool _, .str _, h | .bool _, .lst _, h
  | .str _, .int _, h | .str _, .bool _, h | .str _, .lst _, h | .lst _, .int _, h | .lst _, .bool _, h | .lst _, .str _, h => by simp [U.same] at h
theorem U.sameL_eq : ∀ (a b : List U), U.sameL a b = true → a = b
  | [], [], _ => rfl
  | a :: xs, b :: ys, h => by simp only [U.sameL, Bool.and_eq_true] at h; rw [U.same_eq a b h.1, U.sameL_eq xs ys h.2]
  | [], _ :: _, h | _ :: _, [], h => by simp [U.sameL] at h
theorem U.sameLL_eq : ∀ (a b : List (List U)), U.sameLL a b = true → a = b
  | [], [], _ => rfl
  | a :: xs, b :: ys, h => by simp only [U.sameLL, Bool.and_eq_true] at h; rw [U.sameL_eq a b h.1, U.sameLL_eq xs ys h.2]
  | [], _ :: _, h | _ :: _, [], h => by simp [U.sameLL] at h
end
mutual
theorem U.same_self : ∀ (a : U), U.same a a = true
  | .int a => by simp [U.same]
  | .bool a => by simp [U.same]
  | .str a => by simp [U.same]
  | .lst a => by simp only [U.same]; exact U.sameLL_self a
theorem U.sameL_self : ∀ (a : List U), U.sameL a a = true
  | [] => rfl
  | a :: xs => by simp only [U.sameL, U.same_self a, U.sameL_self xs]; rfl
theorem U.sameLL_self : ∀ (a : List (List U)), U.sameLL a a = true
  | [] => rfl
  | a :: xs => by simp only [U.sameLL, U.sameL_self a, U.sameLL_self xs]; rfl
end
end Go.Proofs.YtibbceoibcnpcaaGreat.Eng
