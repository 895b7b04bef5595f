/- The ways into code, and how a printed condition is taken. -/
import Derived.Test.YtifbfcljgagacaaDoorAbWp
import Derived.KernelRfl
namespace Go.Ab

/-- the pieces of code, by their ways -/
def codeFst : Code → Code
  | .seq a _ => a
  | .cond _ a _ => a
  | .block _ b => b
  | .loop b => b
  | .scope b => b
  | c => c
def codeSnd : Code → Code
  | .seq _ b => b
  | .cond _ _ b => b
  | c => c

theorem kc {A B : Prop} (e : A = B) (h : A) : B := e ▸ h


def encI (n : Int) : List AV := [.int .i64 n]
/-- a function's arguments and the heap -/
def argsH (as : List AV) (H : List AObj) : List AV × List AObj := (as, H)

/-- a function's forms: those that stand one behind the other -/
def sameR : List (Nat × Ret) → FuncId → List Ret
  | [], _ => []
  | (g, r) :: l, f => bif Nat.beq g f then r :: sameR l f else []
def lookupR : List (Nat × Ret) → FuncId → List Ret
  | [], _ => []
  | (g, r) :: l, f => bif Nat.beq g f then r :: sameR l f else lookupR l f

def bodyOf (f : Func) : Code := match f.body with | some c => c | none => .skip
def resultsOf (f : Func) : List ResultVar := f.results.toList
def zipSlots : List Nat → List AV → Slots
  | k :: l, a :: r => (k, a) :: zipSlots l r
  | _, _ => []

/-- what stands behind a loop's body -/
def loopQ (P : Program) (N n : Nat) (c : Code) (Q : AQ) (live : Nat → List Nat) : AQ := fun e s H => match e with
  | .normal => AWP P N n c (restrict s (live (firstId (codeFst c)))) H Q
  | e => Q e s H

theorem AWP.loop' {P : Program} {N n : Nat} {s : Slots} {H : List AObj} {Q : AQ} (cfg : Cfg) (live : Nat → List Nat) (c : Code) (hc : c = .loop (codeFst c)) (hN : cfg.N = N)
    (h : awp P cfg n (codeFst c) s H (loopQ P N n c Q live)) : AWP P N n c s H Q := by
  have k := awp_sound cfg n _ _ _ _ h
  rw [hN] at k
  generalize hb : codeFst c = b at *
  subst hc
  refine AWP.loop (k.mono fun e s' H' hq => ?_)
  cases e with
  | normal => exact AWP.sub hq (fun d => get_restrict s' d _)
  | _ => exact hq

/-- a function's specification out of its printed condition -/
theorem ASpec.of_vc {P : Program} {f : FuncId} {fn : Func} {args : List AV} {H : List AObj} {Post : AV → List AObj → Prop} (cfg : Cfg) (hf : P.funcs[f]? = some fn) (hb : fn.body.isSome = true) (hN : fn.ntmps = cfg.N) (hargs : Nat.ble args.length cfg.N = true)
    (h : awp P cfg H.length (bodyOf fn) (slotsOf 0 args) H (endQ P (resultsOf fn) Post)) : ASpec P f args H Post := by
  cases hc : fn.body with
  | none => rw [hc] at hb; cases hb
  | some c =>
    refine ASpec.of_awp cfg.N hf hc hN hargs (awp_sound cfg _ _ _ _ _ ?_)
    have : bodyOf fn = c := by unfold bodyOf; rw [hc]
    rw [← this]; exact h

end Go.Ab
