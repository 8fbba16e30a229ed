/- The numbers under which the dump holds sync.Mutex's functions and types, and that it holds them. -/
import Derived.Test.YtdflfjcnogokgaaProg
import Derived.Conc.RwLib
import Derived.Conc.MuData
import Derived.KernelRfl
namespace Go.Proofs
abbrev Try.muLink : Go.Conc.Locks.MuLink := { lock := 61, unlock := 62, ilock := 80, iunlock := 81, lockSlow := 92, unlockSlow := 95, disable := 88, enable := 90, acquire := 91, relMerge := 93, cas32 := 89, add32 := 94, tMutex := 115, tIMutex := 113, tPMutex := 155, tPIMutex := 167, tPI32 := 169, tUP := 171, tNoCopy := 110, tU32 := 111 }
theorem Try.muLib : Go.Conc.Locks.MuLib Try.prog Try.muLink :=
  ⟨Try.func61, Try.func62, Try.func80, Try.func81, Try.func88, Try.func90, Try.func91, Try.func93, Try.func89, Try.func94, Try.underlying113, Try.runUnderlying113, Try.sizeOf113, Try.isAgg113, Try.zeroValue113, Try.underlying115, Try.runUnderlying115, Try.sizeOf115, Try.isAgg115, Try.zeroValue115, Try.underlying155, Try.runUnderlying155, Try.sizeOf155, Try.isAgg155, Try.zeroValue155, Try.underlying167, Try.runUnderlying167, Try.sizeOf167, Try.isAgg167, Try.zeroValue167, Try.underlying169, Try.runUnderlying169, Try.sizeOf169, Try.isAgg169, Try.zeroValue169, Try.underlying171, Try.runUnderlying171, Try.sizeOf171, Try.isAgg171, Try.zeroValue171, Try.underlying110, Try.runUnderlying110, Try.sizeOf110, Try.isAgg110, Try.zeroValue110, Try.underlying21, Try.runUnderlying21, Try.sizeOf21, Try.isAgg21, Try.zeroValue21, (by kernel_rfl)⟩
end Go.Proofs
