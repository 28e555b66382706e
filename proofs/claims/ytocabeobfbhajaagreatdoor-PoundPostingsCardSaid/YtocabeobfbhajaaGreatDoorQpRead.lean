/-  -/
import Derived.Test.YtocabeobfbhajaaGreatDoorAllE
import Derived.Test.YtocabeobfbhajaaGreatDoorAllG
set_option linter.unusedVariables false
set_option linter.unusedSimpArgs false
set_option linter.unusedSectionVars false
section
set_option maxRecDepth 100000
set_option maxHeartbeats 0
namespace Go.Proofs.YtocabeobfbhajaaGreatDoor.Sx
open Go Go.Proofs Go.Proofs.YtocabeobfbhajaaGreatDoor Go.Proofs.YtocabeobfbhajaaGreatDoor.Sx
structure pRead_A where
 n : Int
 s : ByteArray
def pRead_r1 (A : pRead_A) : ByteArray := cutR A.s
def pRead_r2 (A : pRead_A) : ByteArray := cutR (pRead_r1 A)
def pRead_r3 (A : pRead_A) : ByteArray := cutR (pRead_r2 A)
def pRead_r4 (A : pRead_A) : ByteArray := cutR (pRead_r3 A)
def pRead_r5 (A : pRead_A) : ByteArray := cutR (pRead_r4 A)
def pRead_r6 (A : pRead_A) : ByteArray := cutR (pRead_r5 A)
def pRead_r7 (A : pRead_A) : ByteArray := cutR (pRead_r6 A)
def pRead_r8 (A : pRead_A) : ByteArray := cutR (pRead_r7 A)
def pRead_r9 (A : pRead_A) : ByteArray := cutR (pRead_r8 A)
def pRead_r10 (A : pRead_A) : ByteArray := cutR (pRead_r9 A)
def pRead_r  (A : pRead_A) (w : World) : Int × Int × Int × Int × Int × Int × Int × Int × Int × Int × Int × Int := (if A.n = 3 ∨ A.n = 5 then (if atoiOK (cutA A.s) = true then (if 0 ≤ (atoiV (cutA A.s)) then (if (itoaB (atoiV (cutA A.s))) = (cutA A.s) then (if (cutF A.s) = true then (if atoiOK (cutA (pRead_r1 A)) = true then (if 0 ≤ (atoiV (cutA (pRead_r1 A))) then (if (itoaB ((atoiV (cutA (pRead_r1 A))))) = (cutA (pRead_r1 A)) then (if (cutF (pRead_r1 A)) = true then (if atoiOK (cutA (pRead_r2 A)) = true then (if 0 ≤ (atoiV (cutA (pRead_r2 A))) then (if (itoaB ((atoiV (cutA (pRead_r2 A))))) = (cutA (pRead_r2 A)) then (if (cutF (pRead_r2 A)) = true then (if (cutA (pRead_r3 A)) = (bstr 4 1701734758) then (if (cutF (pRead_r3 A)) = true then (if atoiOK (cutA (pRead_r4 A)) = true then (if 0 ≤ (atoiV (cutA (pRead_r4 A))) then (if (itoaB ((atoiV (cutA (pRead_r4 A))))) = (cutA (pRead_r4 A)) then (if (cutF (pRead_r4 A)) = true then (if atoiOK (cutA (pRead_r5 A)) = true then (if 0 ≤ (atoiV (cutA (pRead_r5 A))) then (if (itoaB ((atoiV (cutA (pRead_r5 A))))) = (cutA (pRead_r5 A)) then (if (cutF (pRead_r5 A)) = true then (if cutF (pRead_r6 A) = true then (if atoiOK (cutA (pRead_r6 A)) = true then (if 0 ≤ (atoiV (cutA (pRead_r6 A))) then (if (itoaB ((atoiV (cutA (pRead_r6 A))))) = (cutA (pRead_r6 A)) then (0, 0, 0, 0, 0, 0, 0, 0, 0, 0, 0, 4) else (0, 0, 0, 0, 0, 0, 0, 0, 0, 0, 0, 4)) else (0, 0, 0, 0, 0, 0, 0, 0, 0, 0, 0, 4)) else (0, 0, 0, 0, 0, 0, 0, 0, 0, 0, 0, 4)) else (if atoiOK (cutA (pRead_r6 A)) = true then (if 0 ≤ (atoiV (cutA (pRead_r6 A))) then (if (itoaB ((atoiV (cutA (pRead_r6 A))))) = (cutA (pRead_r6 A)) then (if checkN A.n ((⟨(atoiV (cutA A.s)), (atoiV (cutA (pRead_r1 A))), (atoiV (cutA (pRead_r2 A))), 1, (atoiV (cutA (pRead_r4 A))), (atoiV (cutA (pRead_r5 A))), ⟨(0), 0⟩, ⟨(0), 0⟩, (atoiV (cutA (pRead_r6 A)))⟩ : Po)) = 0 then (if (lineN ((⟨(atoiV (cutA A.s)), (atoiV (cutA (pRead_r1 A))), (atoiV (cutA (pRead_r2 A))), 1, (atoiV (cutA (pRead_r4 A))), (atoiV (cutA (pRead_r5 A))), ⟨(0), 0⟩, ⟨(0), 0⟩, (atoiV (cutA (pRead_r6 A)))⟩ : Po))) = A.s then ((atoiV (cutA A.s)), (atoiV (cutA (pRead_r1 A))), (atoiV (cutA (pRead_r2 A))), 1, (atoiV (cutA (pRead_r4 A))), (atoiV (cutA (pRead_r5 A))), 0, 0, 0, 0, (atoiV (cutA (pRead_r6 A))), 0) else (0, 0, 0, 0, 0, 0, 0, 0, 0, 0, 0, 4)) else (0, 0, 0, 0, 0, 0, 0, 0, 0, 0, 0, 4)) else (0, 0, 0, 0, 0, 0, 0, 0, 0, 0, 0, 4)) else (0, 0, 0, 0, 0, 0, 0, 0, 0, 0, 0, 4)) else (0, 0, 0, 0, 0, 0, 0, 0, 0, 0, 0, 4))) else (0, 0, 0, 0, 0, 0, 0, 0, 0, 0, 0, 4)) else (0, 0, 0, 0, 0, 0, 0, 0, 0, 0, 0, 4)) else (0, 0, 0, 0, 0, 0, 0, 0, 0, 0, 0, 4)) else (0, 0, 0, 0, 0, 0, 0, 0, 0, 0, 0, 4)) else (0, 0, 0, 0, 0, 0, 0, 0, 0, 0, 0, 4)) else (0, 0, 0, 0, 0, 0, 0, 0, 0, 0, 0, 4)) else (0, 0, 0, 0, 0, 0, 0, 0, 0, 0, 0, 4)) else (0, 0, 0, 0, 0, 0, 0, 0, 0, 0, 0, 4)) else (0, 0, 0, 0, 0, 0, 0, 0, 0, 0, 0, 4)) else (if (cutA (pRead_r3 A)) = (bstr 3 6645094) then (if (cutF (pRead_r3 A)) = true then (if atoiOK (cutA (pRead_r4 A)) = true then (if 0 ≤ (atoiV (cutA (pRead_r4 A))) then (if (itoaB ((atoiV (cutA (pRead_r4 A))))) = (cutA (pRead_r4 A)) then (if (cutF (pRead_r4 A)) = true then (if atoiOK (cutA (pRead_r5 A)) = true then (if 0 ≤ (atoiV (cutA (pRead_r5 A))) then (if (itoaB ((atoiV (cutA (pRead_r5 A))))) = (cutA (pRead_r5 A)) then (if (cutF (pRead_r5 A)) = true then (if cutF (pRead_r6 A) = true then (if atoiOK (cutA (pRead_r6 A)) = true then (if 0 ≤ (atoiV (cutA (pRead_r6 A))) then (if (itoaB ((atoiV (cutA (pRead_r6 A))))) = (cutA (pRead_r6 A)) then (0, 0, 0, 0, 0, 0, 0, 0, 0, 0, 0, 4) else (0, 0, 0, 0, 0, 0, 0, 0, 0, 0, 0, 4)) else (0, 0, 0, 0, 0, 0, 0, 0, 0, 0, 0, 4)) else (0, 0, 0, 0, 0, 0, 0, 0, 0, 0, 0, 4)) else (if atoiOK (cutA (pRead_r6 A)) = true then (if 0 ≤ (atoiV (cutA (pRead_r6 A))) then (if (itoaB ((atoiV (cutA (pRead_r6 A))))) = (cutA (pRead_r6 A)) then (if checkN A.n ((⟨(atoiV (cutA A.s)), (atoiV (cutA (pRead_r1 A))), (atoiV (cutA (pRead_r2 A))), 2, (atoiV (cutA (pRead_r4 A))), (atoiV (cutA (pRead_r5 A))), ⟨(0), 0⟩, ⟨(0), 0⟩, (atoiV (cutA (pRead_r6 A)))⟩ : Po)) = 0 then (if (lineN ((⟨(atoiV (cutA A.s)), (atoiV (cutA (pRead_r1 A))), (atoiV (cutA (pRead_r2 A))), 2, (atoiV (cutA (pRead_r4 A))), (atoiV (cutA (pRead_r5 A))), ⟨(0), 0⟩, ⟨(0), 0⟩, (atoiV (cutA (pRead_r6 A)))⟩ : Po))) = A.s then ((atoiV (cutA A.s)), (atoiV (cutA (pRead_r1 A))), (atoiV (cutA (pRead_r2 A))), 2, (atoiV (cutA (pRead_r4 A))), (atoiV (cutA (pRead_r5 A))), 0, 0, 0, 0, (atoiV (cutA (pRead_r6 A))), 0) else (0, 0, 0, 0, 0, 0, 0, 0, 0, 0, 0, 4)) else (0, 0, 0, 0, 0, 0, 0, 0, 0, 0, 0, 4)) else (0, 0, 0, 0, 0, 0, 0, 0, 0, 0, 0, 4)) else (0, 0, 0, 0, 0, 0, 0, 0, 0, 0, 0, 4)) else (0, 0, 0, 0, 0, 0, 0, 0, 0, 0, 0, 4))) else (0, 0, 0, 0, 0, 0, 0, 0, 0, 0, 0, 4)) else (0, 0, 0, 0, 0, 0, 0, 0, 0, 0, 0, 4)) else (0, 0, 0, 0, 0, 0, 0, 0, 0, 0, 0, 4)) else (0, 0, 0, 0, 0, 0, 0, 0, 0, 0, 0, 4)) else (0, 0, 0, 0, 0, 0, 0, 0, 0, 0, 0, 4)) else (0, 0, 0, 0, 0, 0, 0, 0, 0, 0, 0, 4)) else (0, 0, 0, 0, 0, 0, 0, 0, 0, 0, 0, 4)) else (0, 0, 0, 0, 0, 0, 0, 0, 0, 0, 0, 4)) else (0, 0, 0, 0, 0, 0, 0, 0, 0, 0, 0, 4)) else (if (cutA (pRead_r3 A)) = (bstr 4 1701536116) then (if (cutF (pRead_r3 A)) = true then (if atoiOK (cutA (pRead_r4 A)) = true then (if 0 ≤ (atoiV (cutA (pRead_r4 A))) then (if (itoaB ((atoiV (cutA (pRead_r4 A))))) = (cutA (pRead_r4 A)) then (if (cutF (pRead_r4 A)) = true then (if atoiOK (cutA (pRead_r5 A)) = true then (if 0 ≤ (atoiV (cutA (pRead_r5 A))) then (if (itoaB ((atoiV (cutA (pRead_r5 A))))) = (cutA (pRead_r5 A)) then (if (cutF (pRead_r5 A)) = true then (if cutF (pRead_r6 A) = true then (if atoiOK (cutA (pRead_r6 A)) = true then (if 0 ≤ (atoiV (cutA (pRead_r6 A))) then (if (itoaB ((atoiV (cutA (pRead_r6 A))))) = (cutA (pRead_r6 A)) then (if atoiOK (cutA (pRead_r7 A)) = true then (if 0 ≤ (atoiV (cutA (pRead_r7 A))) then (if (itoaB ((atoiV (cutA (pRead_r7 A))))) = (cutA (pRead_r7 A)) then (if (cutF (pRead_r7 A)) = true then (0, 0, 0, 0, 0, 0, 0, 0, 0, 0, 0, 4) else (if checkN A.n ((⟨(atoiV (cutA A.s)), (atoiV (cutA (pRead_r1 A))), (atoiV (cutA (pRead_r2 A))), 3, 0, (atoiV (cutA (pRead_r6 A))), ⟨(atoiV (cutA (pRead_r4 A))), (atoiV (cutA (pRead_r5 A)))⟩, ⟨(0), 0⟩, (atoiV (cutA (pRead_r7 A)))⟩ : Po)) = 0 then (if (lineN ((⟨(atoiV (cutA A.s)), (atoiV (cutA (pRead_r1 A))), (atoiV (cutA (pRead_r2 A))), 3, 0, (atoiV (cutA (pRead_r6 A))), ⟨(atoiV (cutA (pRead_r4 A))), (atoiV (cutA (pRead_r5 A)))⟩, ⟨(0), 0⟩, (atoiV (cutA (pRead_r7 A)))⟩ : Po))) = A.s then ((atoiV (cutA A.s)), (atoiV (cutA (pRead_r1 A))), (atoiV (cutA (pRead_r2 A))), 3, 0, (atoiV (cutA (pRead_r6 A))), (atoiV (cutA (pRead_r4 A))), (atoiV (cutA (pRead_r5 A))), 0, 0, (atoiV (cutA (pRead_r7 A))), 0) else (0, 0, 0, 0, 0, 0, 0, 0, 0, 0, 0, 4)) else (0, 0, 0, 0, 0, 0, 0, 0, 0, 0, 0, 4))) else (0, 0, 0, 0, 0, 0, 0, 0, 0, 0, 0, 4)) else (0, 0, 0, 0, 0, 0, 0, 0, 0, 0, 0, 4)) else (0, 0, 0, 0, 0, 0, 0, 0, 0, 0, 0, 4)) else (0, 0, 0, 0, 0, 0, 0, 0, 0, 0, 0, 4)) else (0, 0, 0, 0, 0, 0, 0, 0, 0, 0, 0, 4)) else (0, 0, 0, 0, 0, 0, 0, 0, 0, 0, 0, 4)) else (if atoiOK (cutA (pRead_r6 A)) = true then (if 0 ≤ (atoiV (cutA (pRead_r6 A))) then (if (itoaB ((atoiV (cutA (pRead_r6 A))))) = (cutA (pRead_r6 A)) then (0, 0, 0, 0, 0, 0, 0, 0, 0, 0, 0, 4) else (0, 0, 0, 0, 0, 0, 0, 0, 0, 0, 0, 4)) else (0, 0, 0, 0, 0, 0, 0, 0, 0, 0, 0, 4)) else (0, 0, 0, 0, 0, 0, 0, 0, 0, 0, 0, 4))) else (0, 0, 0, 0, 0, 0, 0, 0, 0, 0, 0, 4)) else (0, 0, 0, 0, 0, 0, 0, 0, 0, 0, 0, 4)) else (0, 0, 0, 0, 0, 0, 0, 0, 0, 0, 0, 4)) else (0, 0, 0, 0, 0, 0, 0, 0, 0, 0, 0, 4)) else (0, 0, 0, 0, 0, 0, 0, 0, 0, 0, 0, 4)) else (0, 0, 0, 0, 0, 0, 0, 0, 0, 0, 0, 4)) else (0, 0, 0, 0, 0, 0, 0, 0, 0, 0, 0, 4)) else (0, 0, 0, 0, 0, 0, 0, 0, 0, 0, 0, 4)) else (0, 0, 0, 0, 0, 0, 0, 0, 0, 0, 0, 4)) else (if (cutA (pRead_r3 A)) = (bstr 3 7954800) then (if (cutF (pRead_r3 A)) = true then (if atoiOK (cutA (pRead_r4 A)) = true then (if 0 ≤ (atoiV (cutA (pRead_r4 A))) then (if (itoaB ((atoiV (cutA (pRead_r4 A))))) = (cutA (pRead_r4 A)) then (if (cutF (pRead_r4 A)) = true then (if atoiOK (cutA (pRead_r5 A)) = true then (if 0 ≤ (atoiV (cutA (pRead_r5 A))) then (if (itoaB ((atoiV (cutA (pRead_r5 A))))) = (cutA (pRead_r5 A)) then (if (cutF (pRead_r5 A)) = true then (if cutF (pRead_r6 A) = true then (if atoiOK (cutA (pRead_r6 A)) = true then (if 0 ≤ (atoiV (cutA (pRead_r6 A))) then (if (itoaB ((atoiV (cutA (pRead_r6 A))))) = (cutA (pRead_r6 A)) then (if (cutA (pRead_r7 A)) = (bstr 2 31074) then (if (cutF (pRead_r7 A)) = true then (if atoiOK (cutA (pRead_r8 A)) = true then (if 0 ≤ (atoiV (cutA (pRead_r8 A))) then (if (itoaB ((atoiV (cutA (pRead_r8 A))))) = (cutA (pRead_r8 A)) then (if (cutF (pRead_r8 A)) = true then (if atoiOK (cutA (pRead_r9 A)) = true then (if 0 ≤ (atoiV (cutA (pRead_r9 A))) then (if (itoaB ((atoiV (cutA (pRead_r9 A))))) = (cutA (pRead_r9 A)) then (if (cutF (pRead_r9 A)) = true then (0, 0, 0, 0, 0, 0, 0, 0, 0, 0, 0, 4) else (if checkN A.n ((⟨(atoiV (cutA A.s)), (atoiV (cutA (pRead_r1 A))), (atoiV (cutA (pRead_r2 A))), 4, 0, (atoiV (cutA (pRead_r5 A))), ⟨(atoiV (cutA A.s)), (atoiV (cutA (pRead_r4 A)))⟩, ⟨(atoiV (cutA (pRead_r8 A))), (atoiV (cutA (pRead_r9 A)))⟩, (atoiV (cutA (pRead_r6 A)))⟩ : Po)) = 0 then (if (lineN ((⟨(atoiV (cutA A.s)), (atoiV (cutA (pRead_r1 A))), (atoiV (cutA (pRead_r2 A))), 4, 0, (atoiV (cutA (pRead_r5 A))), ⟨(atoiV (cutA A.s)), (atoiV (cutA (pRead_r4 A)))⟩, ⟨(atoiV (cutA (pRead_r8 A))), (atoiV (cutA (pRead_r9 A)))⟩, (atoiV (cutA (pRead_r6 A)))⟩ : Po))) = A.s then ((atoiV (cutA A.s)), (atoiV (cutA (pRead_r1 A))), (atoiV (cutA (pRead_r2 A))), 4, 0, (atoiV (cutA (pRead_r5 A))), (atoiV (cutA A.s)), (atoiV (cutA (pRead_r4 A))), (atoiV (cutA (pRead_r8 A))), (atoiV (cutA (pRead_r9 A))), (atoiV (cutA (pRead_r6 A))), 0) else (0, 0, 0, 0, 0, 0, 0, 0, 0, 0, 0, 4)) else (0, 0, 0, 0, 0, 0, 0, 0, 0, 0, 0, 4))) else (0, 0, 0, 0, 0, 0, 0, 0, 0, 0, 0, 4)) else (0, 0, 0, 0, 0, 0, 0, 0, 0, 0, 0, 4)) else (0, 0, 0, 0, 0, 0, 0, 0, 0, 0, 0, 4)) else (0, 0, 0, 0, 0, 0, 0, 0, 0, 0, 0, 4)) else (0, 0, 0, 0, 0, 0, 0, 0, 0, 0, 0, 4)) else (0, 0, 0, 0, 0, 0, 0, 0, 0, 0, 0, 4)) else (0, 0, 0, 0, 0, 0, 0, 0, 0, 0, 0, 4)) else (0, 0, 0, 0, 0, 0, 0, 0, 0, 0, 0, 4)) else (0, 0, 0, 0, 0, 0, 0, 0, 0, 0, 0, 4)) else (0, 0, 0, 0, 0, 0, 0, 0, 0, 0, 0, 4)) else (0, 0, 0, 0, 0, 0, 0, 0, 0, 0, 0, 4)) else (0, 0, 0, 0, 0, 0, 0, 0, 0, 0, 0, 4)) else (if atoiOK (cutA (pRead_r6 A)) = true then (if 0 ≤ (atoiV (cutA (pRead_r6 A))) then (if (itoaB ((atoiV (cutA (pRead_r6 A))))) = (cutA (pRead_r6 A)) then (if checkN A.n ((⟨(atoiV (cutA A.s)), (atoiV (cutA (pRead_r1 A))), (atoiV (cutA (pRead_r2 A))), 4, 0, (atoiV (cutA (pRead_r5 A))), ⟨(atoiV (cutA A.s)), (atoiV (cutA (pRead_r4 A)))⟩, ⟨(0), 0⟩, (atoiV (cutA (pRead_r6 A)))⟩ : Po)) = 0 then (if (lineN ((⟨(atoiV (cutA A.s)), (atoiV (cutA (pRead_r1 A))), (atoiV (cutA (pRead_r2 A))), 4, 0, (atoiV (cutA (pRead_r5 A))), ⟨(atoiV (cutA A.s)), (atoiV (cutA (pRead_r4 A)))⟩, ⟨(0), 0⟩, (atoiV (cutA (pRead_r6 A)))⟩ : Po))) = A.s then ((atoiV (cutA A.s)), (atoiV (cutA (pRead_r1 A))), (atoiV (cutA (pRead_r2 A))), 4, 0, (atoiV (cutA (pRead_r5 A))), (atoiV (cutA A.s)), (atoiV (cutA (pRead_r4 A))), 0, 0, (atoiV (cutA (pRead_r6 A))), 0) else (0, 0, 0, 0, 0, 0, 0, 0, 0, 0, 0, 4)) else (0, 0, 0, 0, 0, 0, 0, 0, 0, 0, 0, 4)) else (0, 0, 0, 0, 0, 0, 0, 0, 0, 0, 0, 4)) else (0, 0, 0, 0, 0, 0, 0, 0, 0, 0, 0, 4)) else (0, 0, 0, 0, 0, 0, 0, 0, 0, 0, 0, 4))) else (0, 0, 0, 0, 0, 0, 0, 0, 0, 0, 0, 4)) else (0, 0, 0, 0, 0, 0, 0, 0, 0, 0, 0, 4)) else (0, 0, 0, 0, 0, 0, 0, 0, 0, 0, 0, 4)) else (0, 0, 0, 0, 0, 0, 0, 0, 0, 0, 0, 4)) else (0, 0, 0, 0, 0, 0, 0, 0, 0, 0, 0, 4)) else (0, 0, 0, 0, 0, 0, 0, 0, 0, 0, 0, 4)) else (0, 0, 0, 0, 0, 0, 0, 0, 0, 0, 0, 4)) else (0, 0, 0, 0, 0, 0, 0, 0, 0, 0, 0, 4)) else (0, 0, 0, 0, 0, 0, 0, 0, 0, 0, 0, 4)) else (if (cutA (pRead_r3 A)) = (bstr 5 435778314615) then (if (cutF (pRead_r3 A)) = true then (if atoiOK (cutA (pRead_r4 A)) = true then (if 0 ≤ (atoiV (cutA (pRead_r4 A))) then (if (itoaB ((atoiV (cutA (pRead_r4 A))))) = (cutA (pRead_r4 A)) then (if (cutF (pRead_r4 A)) = true then (if atoiOK (cutA (pRead_r5 A)) = true then (if 0 ≤ (atoiV (cutA (pRead_r5 A))) then (if (itoaB ((atoiV (cutA (pRead_r5 A))))) = (cutA (pRead_r5 A)) then (if (cutF (pRead_r5 A)) = true then (if cutF (pRead_r6 A) = true then (if atoiOK (cutA (pRead_r6 A)) = true then (if 0 ≤ (atoiV (cutA (pRead_r6 A))) then (if (itoaB ((atoiV (cutA (pRead_r6 A))))) = (cutA (pRead_r6 A)) then (0, 0, 0, 0, 0, 0, 0, 0, 0, 0, 0, 4) else (0, 0, 0, 0, 0, 0, 0, 0, 0, 0, 0, 4)) else (0, 0, 0, 0, 0, 0, 0, 0, 0, 0, 0, 4)) else (0, 0, 0, 0, 0, 0, 0, 0, 0, 0, 0, 4)) else (if atoiOK (cutA (pRead_r6 A)) = true then (if 0 ≤ (atoiV (cutA (pRead_r6 A))) then (if (itoaB ((atoiV (cutA (pRead_r6 A))))) = (cutA (pRead_r6 A)) then (if checkN A.n ((⟨(atoiV (cutA A.s)), (atoiV (cutA (pRead_r1 A))), (atoiV (cutA (pRead_r2 A))), 5, 0, (atoiV (cutA (pRead_r5 A))), ⟨(atoiV (cutA A.s)), (atoiV (cutA (pRead_r4 A)))⟩, ⟨(0), 0⟩, (atoiV (cutA (pRead_r6 A)))⟩ : Po)) = 0 then (if (lineN ((⟨(atoiV (cutA A.s)), (atoiV (cutA (pRead_r1 A))), (atoiV (cutA (pRead_r2 A))), 5, 0, (atoiV (cutA (pRead_r5 A))), ⟨(atoiV (cutA A.s)), (atoiV (cutA (pRead_r4 A)))⟩, ⟨(0), 0⟩, (atoiV (cutA (pRead_r6 A)))⟩ : Po))) = A.s then ((atoiV (cutA A.s)), (atoiV (cutA (pRead_r1 A))), (atoiV (cutA (pRead_r2 A))), 5, 0, (atoiV (cutA (pRead_r5 A))), (atoiV (cutA A.s)), (atoiV (cutA (pRead_r4 A))), 0, 0, (atoiV (cutA (pRead_r6 A))), 0) else (0, 0, 0, 0, 0, 0, 0, 0, 0, 0, 0, 4)) else (0, 0, 0, 0, 0, 0, 0, 0, 0, 0, 0, 4)) else (0, 0, 0, 0, 0, 0, 0, 0, 0, 0, 0, 4)) else (0, 0, 0, 0, 0, 0, 0, 0, 0, 0, 0, 4)) else (0, 0, 0, 0, 0, 0, 0, 0, 0, 0, 0, 4))) else (0, 0, 0, 0, 0, 0, 0, 0, 0, 0, 0, 4)) else (0, 0, 0, 0, 0, 0, 0, 0, 0, 0, 0, 4)) else (0, 0, 0, 0, 0, 0, 0, 0, 0, 0, 0, 4)) else (0, 0, 0, 0, 0, 0, 0, 0, 0, 0, 0, 4)) else (0, 0, 0, 0, 0, 0, 0, 0, 0, 0, 0, 4)) else (0, 0, 0, 0, 0, 0, 0, 0, 0, 0, 0, 4)) else (0, 0, 0, 0, 0, 0, 0, 0, 0, 0, 0, 4)) else (0, 0, 0, 0, 0, 0, 0, 0, 0, 0, 0, 4)) else (0, 0, 0, 0, 0, 0, 0, 0, 0, 0, 0, 4)) else (0, 0, 0, 0, 0, 0, 0, 0, 0, 0, 0, 4)))))) else (0, 0, 0, 0, 0, 0, 0, 0, 0, 0, 0, 4)) else (0, 0, 0, 0, 0, 0, 0, 0, 0, 0, 0, 4)) else (0, 0, 0, 0, 0, 0, 0, 0, 0, 0, 0, 4)) else (0, 0, 0, 0, 0, 0, 0, 0, 0, 0, 0, 4)) else (0, 0, 0, 0, 0, 0, 0, 0, 0, 0, 0, 4)) else (0, 0, 0, 0, 0, 0, 0, 0, 0, 0, 0, 4)) else (0, 0, 0, 0, 0, 0, 0, 0, 0, 0, 0, 4)) else (0, 0, 0, 0, 0, 0, 0, 0, 0, 0, 0, 4)) else (0, 0, 0, 0, 0, 0, 0, 0, 0, 0, 0, 4)) else (0, 0, 0, 0, 0, 0, 0, 0, 0, 0, 0, 4)) else (0, 0, 0, 0, 0, 0, 0, 0, 0, 0, 0, 4)) else (0, 0, 0, 0, 0, 0, 0, 0, 0, 0, 0, 4)) else (0, 0, 0, 0, 0, 0, 0, 0, 0, 0, 0, 1))
def pRead_S (A : pRead_A) (w : World) (r : Int × Int × Int × Int × Int × Int × Int × Int × Int × Int × Int × Int) : Prop := Calls Tryz.prog 17 #[.int .i64 A.n, .string A.s] w fun e w' => e = .returned (.tuple #[.agg #[.int .i64 r.1, .int .i64 r.2.1, .int .i64 r.2.2.1, .int .u8 r.2.2.2.1, .int .i64 r.2.2.2.2.1, .int .i64 r.2.2.2.2.2.1, .int .i64 r.2.2.2.2.2.2.1, .int .i64 r.2.2.2.2.2.2.2.1, .int .i64 r.2.2.2.2.2.2.2.2.1, .int .i64 r.2.2.2.2.2.2.2.2.2.1, .int .i64 r.2.2.2.2.2.2.2.2.2.2.1], .int .i64 r.2.2.2.2.2.2.2.2.2.2.2]) ∧ Chg (fun _ => False) w w'
theorem pRead_any  (A : pRead_A) (w : World) (HS : StrW w) (h0 : (A.s.size : Int) ≤ 300) : pRead_S A w (pRead_r A w) := by
 unfold pRead_r
 refine wGo (E := E0) (n := 8) (w := w) (L := id) ?_
 refine wS (.agg #[] :: I A.n :: .string A.s :: []) ?_
 refine wI (fun h1 => ?_) (fun h1 => ?_)
 ·skip
  have h2 : ((cutA A.s).size : Int) ≤ ((A.s).size : Int) := cutA_size _
  have h3 : ((pRead_r1 A).size : Int) ≤ ((A.s).size : Int) := cutR_size _
  have h4 : -9223372036854775808 ≤ atoiV (cutA A.s) ∧ atoiV (cutA A.s) ≤ 9223372036854775807 := atoiV_rng _
  refine wS (.string (cutA A.s) :: .string (pRead_r1 A) :: .bool (cutF A.s) :: []) (wC (⟨75, [.tup [1], .tup []], (.bool true)⟩) (fun _ => q_cV (h := fun w hw => by have hb := decide_eq_true h1; rw [← hb]; exact pMany_n _ _)) (wC (⟨239, [.tup [2, .str 1 32], .tup []], .tup [3, 4, 5]⟩) (fun _ => q_cV (h := fun w hw => by exact cut_n (HS.old hw) _ (show ((A.s).size : Int) ≤ 100000 by omega))) ?_))
  refine wI (fun h5 => ?_) (fun h5 => ?_)
  ·skip
   refine wS (I (atoiV (cutA A.s)) :: []) (wC (⟨241, [.tup [3], .tup []], .tup [6, .ni]⟩) (fun _ => q_cV (h := fun w hw => by exact atoi_t (HS.old hw) _ (show ((cutA A.s).size : Int) ≤ 100000 by omega) h5)) ?_)
   refine wI (fun h6 => ?_) (fun h6 => ?_)
   ·skip
    refine wS (.string ((itoaB (atoiV (cutA A.s)))) :: []) (wT .geq 6 (J 0) h6 (wC (⟨170, [.tup [6], .tup []], 7⟩) (fun _ => q_cV (h := fun w hw => by exact itoa_n (HS.old hw) _ (show -9223372036854775808 ≤ (atoiV (cutA A.s)) ∧ (atoiV (cutA A.s)) ≤ 9223372036854775807 by omega))) ?_))
    refine wI (fun h7 => ?_) (fun h7 => ?_)
    ·skip
     refine wE (⟨tagB .eql, [7, 3], .bool true⟩) (fun _ => q_seq_t rfl rfl h7) ?_
     refine wI (fun h8 => ?_) (fun h8 => ?_)
     ·skip
      have h9 : ((cutA (pRead_r1 A)).size : Int) ≤ ((pRead_r1 A).size : Int) := cutA_size _
      have h10 : ((pRead_r2 A).size : Int) ≤ ((pRead_r1 A).size : Int) := cutR_size _
      have h11 : -9223372036854775808 ≤ atoiV (cutA (pRead_r1 A)) ∧ atoiV (cutA (pRead_r1 A)) ≤ 9223372036854775807 := atoiV_rng _
      refine wS (.string (cutA (pRead_r1 A)) :: .string (pRead_r2 A) :: .bool (cutF (pRead_r1 A)) :: []) (wE (⟨102, [5], .bool false⟩) (fun _ => q_not (x := (cutF A.s)) rfl h8) (wC (⟨239, [.tup [4, .str 1 32], .tup []], .tup [8, 9, 10]⟩) (fun _ => q_cV (h := fun w hw => by exact cut_n (HS.old hw) _ (show ((pRead_r1 A).size : Int) ≤ 100000 by omega))) ?_))
      refine wI (fun h12 => ?_) (fun h12 => ?_)
      ·skip
       refine wS (I ((atoiV (cutA (pRead_r1 A)))) :: []) (wC (⟨241, [.tup [8], .tup []], .tup [11, .ni]⟩) (fun _ => q_cV (h := fun w hw => by exact atoi_t (HS.old hw) _ (show (((cutA (pRead_r1 A))).size : Int) ≤ 100000 by omega) h12)) ?_)
       refine wI (fun h13 => ?_) (fun h13 => ?_)
       ·skip
        refine wS (.string ((itoaB ((atoiV (cutA (pRead_r1 A)))))) :: []) (wT .geq 11 (J 0) h13 (wC (⟨170, [.tup [11], .tup []], 12⟩) (fun _ => q_cV (h := fun w hw => by exact itoa_n (HS.old hw) _ (show -9223372036854775808 ≤ ((atoiV (cutA (pRead_r1 A)))) ∧ ((atoiV (cutA (pRead_r1 A)))) ≤ 9223372036854775807 by omega))) ?_))
        refine wI (fun h14 => ?_) (fun h14 => ?_)
        ·skip
         refine wE (⟨tagB .eql, [12, 8], .bool true⟩) (fun _ => q_seq_t rfl rfl h14) ?_
         refine wI (fun h15 => ?_) (fun h15 => ?_)
         ·skip
          have h16 : ((cutA (pRead_r2 A)).size : Int) ≤ ((pRead_r2 A).size : Int) := cutA_size _
          have h17 : ((pRead_r3 A).size : Int) ≤ ((pRead_r2 A).size : Int) := cutR_size _
          have h18 : -9223372036854775808 ≤ atoiV (cutA (pRead_r2 A)) ∧ atoiV (cutA (pRead_r2 A)) ≤ 9223372036854775807 := atoiV_rng _
          refine wS (.string (cutA (pRead_r2 A)) :: .string (pRead_r3 A) :: .bool (cutF (pRead_r2 A)) :: []) (wE (⟨102, [10], .bool false⟩) (fun _ => q_not (x := (cutF (pRead_r1 A))) rfl h15) (wC (⟨239, [.tup [9, .str 1 32], .tup []], .tup [13, 14, 15]⟩) (fun _ => q_cV (h := fun w hw => by exact cut_n (HS.old hw) _ (show ((pRead_r2 A).size : Int) ≤ 100000 by omega))) ?_))
          refine wI (fun h19 => ?_) (fun h19 => ?_)
          ·skip
           refine wS (I ((atoiV (cutA (pRead_r2 A)))) :: []) (wC (⟨241, [.tup [13], .tup []], .tup [16, .ni]⟩) (fun _ => q_cV (h := fun w hw => by exact atoi_t (HS.old hw) _ (show (((cutA (pRead_r2 A))).size : Int) ≤ 100000 by omega) h19)) ?_)
           refine wI (fun h20 => ?_) (fun h20 => ?_)
           ·skip
            refine wS (.string ((itoaB ((atoiV (cutA (pRead_r2 A)))))) :: []) (wT .geq 16 (J 0) h20 (wC (⟨170, [.tup [16], .tup []], 17⟩) (fun _ => q_cV (h := fun w hw => by exact itoa_n (HS.old hw) _ (show -9223372036854775808 ≤ ((atoiV (cutA (pRead_r2 A)))) ∧ ((atoiV (cutA (pRead_r2 A)))) ≤ 9223372036854775807 by omega))) ?_))
            refine wI (fun h21 => ?_) (fun h21 => ?_)
            ·skip
             refine wE (⟨tagB .eql, [17, 13], .bool true⟩) (fun _ => q_seq_t rfl rfl h21) ?_
             refine wI (fun h22 => ?_) (fun h22 => ?_)
             ·skip
              have h23 : ((cutA (pRead_r3 A)).size : Int) ≤ ((pRead_r3 A).size : Int) := cutA_size _
              have h24 : ((pRead_r4 A).size : Int) ≤ ((pRead_r3 A).size : Int) := cutR_size _
              have h25 : -9223372036854775808 ≤ atoiV (cutA (pRead_r3 A)) ∧ atoiV (cutA (pRead_r3 A)) ≤ 9223372036854775807 := atoiV_rng _
              refine wS (.string (cutA (pRead_r3 A)) :: .string (pRead_r4 A) :: .bool (cutF (pRead_r3 A)) :: []) (wE (⟨102, [15], .bool false⟩) (fun _ => q_not (x := (cutF (pRead_r2 A))) rfl h22) (wC (⟨239, [.tup [14, .str 1 32], .tup []], .tup [18, 19, 20]⟩) (fun _ => q_cV (h := fun w hw => by exact cut_n (HS.old hw) _ (show ((pRead_r3 A).size : Int) ≤ 100000 by omega))) ?_))
              refine wI (fun h26 => ?_) (fun h26 => ?_)
              ·skip
               refine wE (⟨tagB .eql, [18, .str 4 1701734758], .bool true⟩) (fun _ => q_seq_t rfl rfl h26) ?_
               refine wI (fun h27 => ?_) (fun h27 => ?_)
               ·skip
                have h28 : ((cutA (pRead_r4 A)).size : Int) ≤ ((pRead_r4 A).size : Int) := cutA_size _
                have h29 : ((pRead_r5 A).size : Int) ≤ ((pRead_r4 A).size : Int) := cutR_size _
                have h30 : -9223372036854775808 ≤ atoiV (cutA (pRead_r4 A)) ∧ atoiV (cutA (pRead_r4 A)) ≤ 9223372036854775807 := atoiV_rng _
                refine wS (.string (cutA (pRead_r4 A)) :: .string (pRead_r5 A) :: .bool (cutF (pRead_r4 A)) :: []) (wE (⟨102, [20], .bool false⟩) (fun _ => q_not (x := (cutF (pRead_r3 A))) rfl h27) (wC (⟨239, [.tup [19, .str 1 32], .tup []], .tup [21, 22, 23]⟩) (fun _ => q_cV (h := fun w hw => by exact cut_n (HS.old hw) _ (show ((pRead_r4 A).size : Int) ≤ 100000 by omega))) ?_))
                refine wI (fun h31 => ?_) (fun h31 => ?_)
                ·skip
                 refine wS (I ((atoiV (cutA (pRead_r4 A)))) :: []) (wC (⟨241, [.tup [21], .tup []], .tup [24, .ni]⟩) (fun _ => q_cV (h := fun w hw => by exact atoi_t (HS.old hw) _ (show (((cutA (pRead_r4 A))).size : Int) ≤ 100000 by omega) h31)) ?_)
                 refine wI (fun h32 => ?_) (fun h32 => ?_)
                 ·skip
                  refine wS (.string ((itoaB ((atoiV (cutA (pRead_r4 A)))))) :: []) (wT .geq 24 (J 0) h32 (wC (⟨170, [.tup [24], .tup []], 25⟩) (fun _ => q_cV (h := fun w hw => by exact itoa_n (HS.old hw) _ (show -9223372036854775808 ≤ ((atoiV (cutA (pRead_r4 A)))) ∧ ((atoiV (cutA (pRead_r4 A)))) ≤ 9223372036854775807 by omega))) ?_))
                  refine wI (fun h33 => ?_) (fun h33 => ?_)
                  ·skip
                   refine wE (⟨tagB .eql, [25, 21], .bool true⟩) (fun _ => q_seq_t rfl rfl h33) ?_
                   refine wI (fun h34 => ?_) (fun h34 => ?_)
                   ·skip
                    have h35 : ((cutA (pRead_r5 A)).size : Int) ≤ ((pRead_r5 A).size : Int) := cutA_size _
                    have h36 : ((pRead_r6 A).size : Int) ≤ ((pRead_r5 A).size : Int) := cutR_size _
                    have h37 : -9223372036854775808 ≤ atoiV (cutA (pRead_r5 A)) ∧ atoiV (cutA (pRead_r5 A)) ≤ 9223372036854775807 := atoiV_rng _
                    refine wS (.string (cutA (pRead_r5 A)) :: .string (pRead_r6 A) :: .bool (cutF (pRead_r5 A)) :: []) (wE (⟨102, [23], .bool false⟩) (fun _ => q_not (x := (cutF (pRead_r4 A))) rfl h34) (wC (⟨239, [.tup [22, .str 1 32], .tup []], .tup [26, 27, 28]⟩) (fun _ => q_cV (h := fun w hw => by exact cut_n (HS.old hw) _ (show ((pRead_r5 A).size : Int) ≤ 100000 by omega))) ?_))
                    refine wI (fun h38 => ?_) (fun h38 => ?_)
                    ·skip
                     refine wS (I ((atoiV (cutA (pRead_r5 A)))) :: []) (wC (⟨241, [.tup [26], .tup []], .tup [29, .ni]⟩) (fun _ => q_cV (h := fun w hw => by exact atoi_t (HS.old hw) _ (show (((cutA (pRead_r5 A))).size : Int) ≤ 100000 by omega) h38)) ?_)
                     refine wI (fun h39 => ?_) (fun h39 => ?_)
                     ·skip
                      refine wS (.string ((itoaB ((atoiV (cutA (pRead_r5 A)))))) :: []) (wT .geq 29 (J 0) h39 (wC (⟨170, [.tup [29], .tup []], 30⟩) (fun _ => q_cV (h := fun w hw => by exact itoa_n (HS.old hw) _ (show -9223372036854775808 ≤ ((atoiV (cutA (pRead_r5 A)))) ∧ ((atoiV (cutA (pRead_r5 A)))) ≤ 9223372036854775807 by omega))) ?_))
                      refine wI (fun h40 => ?_) (fun h40 => ?_)
                      ·skip
                       refine wE (⟨tagB .eql, [30, 26], .bool true⟩) (fun _ => q_seq_t rfl rfl h40) ?_
                       refine wI (fun h41 => ?_) (fun h41 => ?_)
                       ·skip
                        have h42 : ((cutA (pRead_r6 A)).size : Int) ≤ ((pRead_r6 A).size : Int) := cutA_size _
                        have h43 : ((pRead_r7 A).size : Int) ≤ ((pRead_r6 A).size : Int) := cutR_size _
                        have h44 : -9223372036854775808 ≤ atoiV (cutA (pRead_r6 A)) ∧ atoiV (cutA (pRead_r6 A)) ≤ 9223372036854775807 := atoiV_rng _
                        refine wE (⟨102, [28], .bool false⟩) (fun _ => q_not (x := (cutF (pRead_r5 A))) rfl h41) ?_
                        refine wI (fun h45 => ?_) (fun h45 => ?_)
                        ·skip
                         refine wS (.string (cutA (pRead_r6 A)) :: .string (pRead_r7 A) :: []) (wC (⟨239, [.tup [27, .str 1 32], .tup []], .tup [31, 32, (.bool true)]⟩) (fun _ => q_cV (h := fun w hw => by have hb := h45; (try simp only [Bool.not_eq_true] at hb); rw [← hb]; exact cut_n (HS.old hw) _ (show ((pRead_r6 A).size : Int) ≤ 100000 by omega))) ?_)
                         refine wI (fun h46 => ?_) (fun h46 => ?_)
                         ·skip
                          refine wS (I ((atoiV (cutA (pRead_r6 A)))) :: []) (wC (⟨241, [.tup [31], .tup []], .tup [33, .ni]⟩) (fun _ => q_cV (h := fun w hw => by exact atoi_t (HS.old hw) _ (show (((cutA (pRead_r6 A))).size : Int) ≤ 100000 by omega) h46)) ?_)
                          refine wI (fun h47 => ?_) (fun h47 => ?_)
                          ·skip
                           refine wS (.string ((itoaB ((atoiV (cutA (pRead_r6 A)))))) :: []) (wT .geq 33 (J 0) h47 (wC (⟨170, [.tup [33], .tup []], 34⟩) (fun _ => q_cV (h := fun w hw => by exact itoa_n (HS.old hw) _ (show -9223372036854775808 ≤ ((atoiV (cutA (pRead_r6 A)))) ∧ ((atoiV (cutA (pRead_r6 A)))) ≤ 9223372036854775807 by omega))) ?_))
                           refine wI (fun h48 => ?_) (fun h48 => ?_)
                           ·skip
                            refine wE (⟨tagB .eql, [34, 31], .bool true⟩) (fun _ => q_seq_t rfl rfl h48) ?_
                            exact wY (.tup [.agg [.int .i64 0, .int .i64 0, .int .i64 0, .bs 1 0, .int .i64 0, .int .i64 0, .int .i64 0, .int .i64 0, .int .i64 0, .int .i64 0, .int .i64 0], .int .i64 4]) [1, 2]
                           ·skip
                            refine wE (⟨tagB .eql, [34, 31], .bool false⟩) (fun _ => q_seq_f rfl rfl h48) ?_
                            exact wY (.tup [.agg [.int .i64 0, .int .i64 0, .int .i64 0, .bs 1 0, .int .i64 0, .int .i64 0, .int .i64 0, .int .i64 0, .int .i64 0, .int .i64 0, .int .i64 0], .int .i64 4]) [1, 2]
                          ·skip
                           refine wF .geq 33 (J 0) h47 ?_
                           exact wY (.tup [.agg [.int .i64 0, .int .i64 0, .int .i64 0, .bs 1 0, .int .i64 0, .int .i64 0, .int .i64 0, .int .i64 0, .int .i64 0, .int .i64 0, .int .i64 0], .int .i64 4]) [1, 2]
                         ·skip
                          refine wC (⟨241, [.tup [31], .tup []], .tup [.top, .ifc 378 .top]⟩) (fun _ => q_cErr (h := fun w hw => atoi_f (HS.old hw) _ (show (((cutA (pRead_r6 A))).size : Int) ≤ 100000 by omega) h46)) ?_
                          exact wY (.tup [.agg [.int .i64 0, .int .i64 0, .int .i64 0, .bs 1 0, .int .i64 0, .int .i64 0, .int .i64 0, .int .i64 0, .int .i64 0, .int .i64 0, .int .i64 0], .int .i64 4]) [1, 2]
                        ·skip
                         refine wS (.string (cutA (pRead_r6 A)) :: .string (pRead_r7 A) :: []) (wC (⟨239, [.tup [27, .str 1 32], .tup []], .tup [31, 32, (.bool false)]⟩) (fun _ => q_cV (h := fun w hw => by have hb := h45; (try simp only [Bool.not_eq_true] at hb); rw [← hb]; exact cut_n (HS.old hw) _ (show ((pRead_r6 A).size : Int) ≤ 100000 by omega))) ?_)
                         refine wI (fun h46 => ?_) (fun h46 => ?_)
                         ·skip
                          refine wS (I ((atoiV (cutA (pRead_r6 A)))) :: []) (wC (⟨241, [.tup [31], .tup []], .tup [33, .ni]⟩) (fun _ => q_cV (h := fun w hw => by exact atoi_t (HS.old hw) _ (show (((cutA (pRead_r6 A))).size : Int) ≤ 100000 by omega) h46)) ?_)
                          refine wI (fun h47 => ?_) (fun h47 => ?_)
                          ·skip
                           refine wS (.string ((itoaB ((atoiV (cutA (pRead_r6 A)))))) :: []) (wT .geq 33 (J 0) h47 (wC (⟨170, [.tup [33], .tup []], 34⟩) (fun _ => q_cV (h := fun w hw => by exact itoa_n (HS.old hw) _ (show -9223372036854775808 ≤ ((atoiV (cutA (pRead_r6 A)))) ∧ ((atoiV (cutA (pRead_r6 A)))) ≤ 9223372036854775807 by omega))) ?_))
                           refine wI (fun h48 => ?_) (fun h48 => ?_)
                           ·skip
                            have h49 : checkN A.n ((⟨(atoiV (cutA A.s)), (atoiV (cutA (pRead_r1 A))), (atoiV (cutA (pRead_r2 A))), 1, (atoiV (cutA (pRead_r4 A))), (atoiV (cutA (pRead_r5 A))), ⟨(0), 0⟩, ⟨(0), 0⟩, (atoiV (cutA (pRead_r6 A)))⟩ : Po)) = 0 → ((0 ≤ (atoiV (cutA A.s)) ∧ (atoiV (cutA A.s)) ≤ 1000000) ∧ (0 ≤ ((atoiV (cutA (pRead_r1 A)))) ∧ ((atoiV (cutA (pRead_r1 A)))) ≤ 1000000) ∧ (0 ≤ ((atoiV (cutA (pRead_r2 A)))) ∧ ((atoiV (cutA (pRead_r2 A)))) ≤ 1000000) ∧ (0 ≤ ((atoiV (cutA (pRead_r4 A)))) ∧ ((atoiV (cutA (pRead_r4 A)))) ≤ 1000000) ∧ (0 ≤ ((atoiV (cutA (pRead_r5 A)))) ∧ ((atoiV (cutA (pRead_r5 A)))) ≤ 1000000) ∧ ((0 : Int) ≤ 0 ∧ (0 : Int) ≤ 1000000) ∧ ((0 : Int) ≤ 0 ∧ (0 : Int) ≤ 1000000) ∧ ((0 : Int) ≤ 0 ∧ (0 : Int) ≤ 1000000) ∧ ((0 : Int) ≤ 0 ∧ (0 : Int) ≤ 1000000) ∧ (0 ≤ ((atoiV (cutA (pRead_r6 A)))) ∧ ((atoiV (cutA (pRead_r6 A)))) ≤ 1000000)) ∧ ((1 : Int) ≤ 1 ∧ (1 : Int) ≤ 5) := formL_c
                            refine wE (⟨tagB .eql, [34, 31], .bool true⟩) (fun _ => q_seq_t rfl rfl h48) ?_
                            refine wI (fun h50 => ?_) (fun h50 => ?_)
                            ·skip
                             have h51 : ((lineN ((⟨(atoiV (cutA A.s)), (atoiV (cutA (pRead_r1 A))), (atoiV (cutA (pRead_r2 A))), 1, (atoiV (cutA (pRead_r4 A))), (atoiV (cutA (pRead_r5 A))), ⟨(0), 0⟩, ⟨(0), 0⟩, (atoiV (cutA (pRead_r6 A)))⟩ : Po))).size : Int) ≤ 100 := lineN_c (show ((0 ≤ (atoiV (cutA A.s)) ∧ (atoiV (cutA A.s)) ≤ 1000000) ∧ (0 ≤ ((atoiV (cutA (pRead_r1 A)))) ∧ ((atoiV (cutA (pRead_r1 A)))) ≤ 1000000) ∧ (0 ≤ ((atoiV (cutA (pRead_r2 A)))) ∧ ((atoiV (cutA (pRead_r2 A)))) ≤ 1000000) ∧ (0 ≤ ((atoiV (cutA (pRead_r4 A)))) ∧ ((atoiV (cutA (pRead_r4 A)))) ≤ 1000000) ∧ (0 ≤ ((atoiV (cutA (pRead_r5 A)))) ∧ ((atoiV (cutA (pRead_r5 A)))) ≤ 1000000) ∧ ((0 : Int) ≤ 0 ∧ (0 : Int) ≤ 1000000) ∧ ((0 : Int) ≤ 0 ∧ (0 : Int) ≤ 1000000) ∧ ((0 : Int) ≤ 0 ∧ (0 : Int) ≤ 1000000) ∧ ((0 : Int) ≤ 0 ∧ (0 : Int) ≤ 1000000) ∧ (0 ≤ ((atoiV (cutA (pRead_r6 A)))) ∧ ((atoiV (cutA (pRead_r6 A)))) ≤ 1000000)) ∧ ((1 : Int) ≤ 1 ∧ (1 : Int) ≤ 5) by omega)
                             refine wS (.string ((lineN ((⟨(atoiV (cutA A.s)), (atoiV (cutA (pRead_r1 A))), (atoiV (cutA (pRead_r2 A))), 1, (atoiV (cutA (pRead_r4 A))), (atoiV (cutA (pRead_r5 A))), ⟨(0), 0⟩, ⟨(0), 0⟩, (atoiV (cutA (pRead_r6 A)))⟩ : Po)))) :: []) (wC (⟨81, [.tup [1, .agg [6, 11, 16, .bs 1 1, 24, 29, J 0, J 0, J 0, J 0, 33]], .tup []], (.bool true)⟩) (fun _ => q_cV (h := fun w hw => by have hb := decide_eq_true h50; rw [← hb]; exact pFormed_c _ _)) (wC (⟨73, [.tup [.agg [6, 11, 16, .bs 1 1, 24, 29, J 0, J 0, J 0, J 0, 33]], .tup []], 35⟩) (fun _ => q_cV (h := fun w hw => by exact pLine_c (HS.old hw) (show ((0 ≤ (atoiV (cutA A.s)) ∧ (atoiV (cutA A.s)) ≤ 1000000) ∧ (0 ≤ ((atoiV (cutA (pRead_r1 A)))) ∧ ((atoiV (cutA (pRead_r1 A)))) ≤ 1000000) ∧ (0 ≤ ((atoiV (cutA (pRead_r2 A)))) ∧ ((atoiV (cutA (pRead_r2 A)))) ≤ 1000000) ∧ (0 ≤ ((atoiV (cutA (pRead_r4 A)))) ∧ ((atoiV (cutA (pRead_r4 A)))) ≤ 1000000) ∧ (0 ≤ ((atoiV (cutA (pRead_r5 A)))) ∧ ((atoiV (cutA (pRead_r5 A)))) ≤ 1000000) ∧ ((0 : Int) ≤ 0 ∧ (0 : Int) ≤ 1000000) ∧ ((0 : Int) ≤ 0 ∧ (0 : Int) ≤ 1000000) ∧ ((0 : Int) ≤ 0 ∧ (0 : Int) ≤ 1000000) ∧ ((0 : Int) ≤ 0 ∧ (0 : Int) ≤ 1000000) ∧ (0 ≤ ((atoiV (cutA (pRead_r6 A)))) ∧ ((atoiV (cutA (pRead_r6 A)))) ≤ 1000000)) ∧ ((1 : Int) ≤ 1 ∧ (1 : Int) ≤ 5) by omega))) ?_))
                             refine wI (fun h52 => ?_) (fun h52 => ?_)
                             ·skip
                              refine wE (⟨tagB .eql, [35, 2], .bool true⟩) (fun _ => q_seq_t rfl rfl h52) ?_
                              dsimp only [pRead_S]
                              exact wY (.tup [.agg [6, 11, 16, .bs 1 1, 24, 29, .int .i64 0, .int .i64 0, .int .i64 0, .int .i64 0, 33], .int .i64 0]) [1, 2]
                             ·skip
                              refine wE (⟨tagB .eql, [35, 2], .bool false⟩) (fun _ => q_seq_f rfl rfl h52) ?_
                              exact wY (.tup [.agg [.int .i64 0, .int .i64 0, .int .i64 0, .bs 1 0, .int .i64 0, .int .i64 0, .int .i64 0, .int .i64 0, .int .i64 0, .int .i64 0, .int .i64 0], .int .i64 4]) [1, 2]
                            ·skip
                             refine wC (⟨81, [.tup [1, .agg [6, 11, 16, .bs 1 1, 24, 29, J 0, J 0, J 0, J 0, 33]], .tup []], (.bool false)⟩) (fun _ => q_cV (h := fun w hw => by have hb := decide_eq_false h50; rw [← hb]; exact pFormed_c _ _)) ?_
                             exact wY (.tup [.agg [.int .i64 0, .int .i64 0, .int .i64 0, .bs 1 0, .int .i64 0, .int .i64 0, .int .i64 0, .int .i64 0, .int .i64 0, .int .i64 0, .int .i64 0], .int .i64 4]) [1, 2]
                           ·skip
                            refine wE (⟨tagB .eql, [34, 31], .bool false⟩) (fun _ => q_seq_f rfl rfl h48) ?_
                            exact wY (.tup [.agg [.int .i64 0, .int .i64 0, .int .i64 0, .bs 1 0, .int .i64 0, .int .i64 0, .int .i64 0, .int .i64 0, .int .i64 0, .int .i64 0, .int .i64 0], .int .i64 4]) [1, 2]
                          ·skip
                           refine wF .geq 33 (J 0) h47 ?_
                           exact wY (.tup [.agg [.int .i64 0, .int .i64 0, .int .i64 0, .bs 1 0, .int .i64 0, .int .i64 0, .int .i64 0, .int .i64 0, .int .i64 0, .int .i64 0, .int .i64 0], .int .i64 4]) [1, 2]
                         ·skip
                          refine wC (⟨241, [.tup [31], .tup []], .tup [.top, .ifc 378 .top]⟩) (fun _ => q_cErr (h := fun w hw => atoi_f (HS.old hw) _ (show (((cutA (pRead_r6 A))).size : Int) ≤ 100000 by omega) h46)) ?_
                          exact wY (.tup [.agg [.int .i64 0, .int .i64 0, .int .i64 0, .bs 1 0, .int .i64 0, .int .i64 0, .int .i64 0, .int .i64 0, .int .i64 0, .int .i64 0, .int .i64 0], .int .i64 4]) [1, 2]
                       ·skip
                        refine wE (⟨102, [28], .bool true⟩) (fun _ => q_not (x := (cutF (pRead_r5 A))) rfl (by have g := h41; revert g; cases (cutF (pRead_r5 A)) <;> simp)) ?_
                        exact wY (.tup [.agg [.int .i64 0, .int .i64 0, .int .i64 0, .bs 1 0, .int .i64 0, .int .i64 0, .int .i64 0, .int .i64 0, .int .i64 0, .int .i64 0, .int .i64 0], .int .i64 4]) [1, 2]
                      ·skip
                       refine wE (⟨tagB .eql, [30, 26], .bool false⟩) (fun _ => q_seq_f rfl rfl h40) ?_
                       exact wY (.tup [.agg [.int .i64 0, .int .i64 0, .int .i64 0, .bs 1 0, .int .i64 0, .int .i64 0, .int .i64 0, .int .i64 0, .int .i64 0, .int .i64 0, .int .i64 0], .int .i64 4]) [1, 2]
                     ·skip
                      refine wF .geq 29 (J 0) h39 ?_
                      exact wY (.tup [.agg [.int .i64 0, .int .i64 0, .int .i64 0, .bs 1 0, .int .i64 0, .int .i64 0, .int .i64 0, .int .i64 0, .int .i64 0, .int .i64 0, .int .i64 0], .int .i64 4]) [1, 2]
                    ·skip
                     refine wC (⟨241, [.tup [26], .tup []], .tup [.top, .ifc 378 .top]⟩) (fun _ => q_cErr (h := fun w hw => atoi_f (HS.old hw) _ (show (((cutA (pRead_r5 A))).size : Int) ≤ 100000 by omega) h38)) ?_
                     exact wY (.tup [.agg [.int .i64 0, .int .i64 0, .int .i64 0, .bs 1 0, .int .i64 0, .int .i64 0, .int .i64 0, .int .i64 0, .int .i64 0, .int .i64 0, .int .i64 0], .int .i64 4]) [1, 2]
                   ·skip
                    refine wE (⟨102, [23], .bool true⟩) (fun _ => q_not (x := (cutF (pRead_r4 A))) rfl (by have g := h34; revert g; cases (cutF (pRead_r4 A)) <;> simp)) ?_
                    exact wY (.tup [.agg [.int .i64 0, .int .i64 0, .int .i64 0, .bs 1 0, .int .i64 0, .int .i64 0, .int .i64 0, .int .i64 0, .int .i64 0, .int .i64 0, .int .i64 0], .int .i64 4]) [1, 2]
                  ·skip
                   refine wE (⟨tagB .eql, [25, 21], .bool false⟩) (fun _ => q_seq_f rfl rfl h33) ?_
                   exact wY (.tup [.agg [.int .i64 0, .int .i64 0, .int .i64 0, .bs 1 0, .int .i64 0, .int .i64 0, .int .i64 0, .int .i64 0, .int .i64 0, .int .i64 0, .int .i64 0], .int .i64 4]) [1, 2]
                 ·skip
                  refine wF .geq 24 (J 0) h32 ?_
                  exact wY (.tup [.agg [.int .i64 0, .int .i64 0, .int .i64 0, .bs 1 0, .int .i64 0, .int .i64 0, .int .i64 0, .int .i64 0, .int .i64 0, .int .i64 0, .int .i64 0], .int .i64 4]) [1, 2]
                ·skip
                 refine wC (⟨241, [.tup [21], .tup []], .tup [.top, .ifc 378 .top]⟩) (fun _ => q_cErr (h := fun w hw => atoi_f (HS.old hw) _ (show (((cutA (pRead_r4 A))).size : Int) ≤ 100000 by omega) h31)) ?_
                 exact wY (.tup [.agg [.int .i64 0, .int .i64 0, .int .i64 0, .bs 1 0, .int .i64 0, .int .i64 0, .int .i64 0, .int .i64 0, .int .i64 0, .int .i64 0, .int .i64 0], .int .i64 4]) [1, 2]
               ·skip
                refine wE (⟨102, [20], .bool true⟩) (fun _ => q_not (x := (cutF (pRead_r3 A))) rfl (by have g := h27; revert g; cases (cutF (pRead_r3 A)) <;> simp)) ?_
                exact wY (.tup [.agg [.int .i64 0, .int .i64 0, .int .i64 0, .bs 1 0, .int .i64 0, .int .i64 0, .int .i64 0, .int .i64 0, .int .i64 0, .int .i64 0, .int .i64 0], .int .i64 4]) [1, 2]
              ·skip
               refine wE (⟨tagB .eql, [18, .str 4 1701734758], .bool false⟩) (fun _ => q_seq_f rfl rfl h26) ?_
               refine wI (fun h27 => ?_) (fun h27 => ?_)
               ·skip
                refine wE (⟨tagB .eql, [18, .str 3 6645094], .bool true⟩) (fun _ => q_seq_t rfl rfl h27) ?_
                refine wI (fun h28 => ?_) (fun h28 => ?_)
                ·skip
                 have h29 : ((cutA (pRead_r4 A)).size : Int) ≤ ((pRead_r4 A).size : Int) := cutA_size _
                 have h30 : ((pRead_r5 A).size : Int) ≤ ((pRead_r4 A).size : Int) := cutR_size _
                 have h31 : -9223372036854775808 ≤ atoiV (cutA (pRead_r4 A)) ∧ atoiV (cutA (pRead_r4 A)) ≤ 9223372036854775807 := atoiV_rng _
                 refine wS (.string (cutA (pRead_r4 A)) :: .string (pRead_r5 A) :: .bool (cutF (pRead_r4 A)) :: []) (wE (⟨102, [20], .bool false⟩) (fun _ => q_not (x := (cutF (pRead_r3 A))) rfl h28) (wC (⟨239, [.tup [19, .str 1 32], .tup []], .tup [21, 22, 23]⟩) (fun _ => q_cV (h := fun w hw => by exact cut_n (HS.old hw) _ (show ((pRead_r4 A).size : Int) ≤ 100000 by omega))) ?_))
                 refine wI (fun h32 => ?_) (fun h32 => ?_)
                 ·skip
                  refine wS (I ((atoiV (cutA (pRead_r4 A)))) :: []) (wC (⟨241, [.tup [21], .tup []], .tup [24, .ni]⟩) (fun _ => q_cV (h := fun w hw => by exact atoi_t (HS.old hw) _ (show (((cutA (pRead_r4 A))).size : Int) ≤ 100000 by omega) h32)) ?_)
                  refine wI (fun h33 => ?_) (fun h33 => ?_)
                  ·skip
                   refine wS (.string ((itoaB ((atoiV (cutA (pRead_r4 A)))))) :: []) (wT .geq 24 (J 0) h33 (wC (⟨170, [.tup [24], .tup []], 25⟩) (fun _ => q_cV (h := fun w hw => by exact itoa_n (HS.old hw) _ (show -9223372036854775808 ≤ ((atoiV (cutA (pRead_r4 A)))) ∧ ((atoiV (cutA (pRead_r4 A)))) ≤ 9223372036854775807 by omega))) ?_))
                   refine wI (fun h34 => ?_) (fun h34 => ?_)
                   ·skip
                    refine wE (⟨tagB .eql, [25, 21], .bool true⟩) (fun _ => q_seq_t rfl rfl h34) ?_
                    refine wI (fun h35 => ?_) (fun h35 => ?_)
                    ·skip
                     have h36 : ((cutA (pRead_r5 A)).size : Int) ≤ ((pRead_r5 A).size : Int) := cutA_size _
                     have h37 : ((pRead_r6 A).size : Int) ≤ ((pRead_r5 A).size : Int) := cutR_size _
                     have h38 : -9223372036854775808 ≤ atoiV (cutA (pRead_r5 A)) ∧ atoiV (cutA (pRead_r5 A)) ≤ 9223372036854775807 := atoiV_rng _
                     refine wS (.string (cutA (pRead_r5 A)) :: .string (pRead_r6 A) :: .bool (cutF (pRead_r5 A)) :: []) (wE (⟨102, [23], .bool false⟩) (fun _ => q_not (x := (cutF (pRead_r4 A))) rfl h35) (wC (⟨239, [.tup [22, .str 1 32], .tup []], .tup [26, 27, 28]⟩) (fun _ => q_cV (h := fun w hw => by exact cut_n (HS.old hw) _ (show ((pRead_r5 A).size : Int) ≤ 100000 by omega))) ?_))
                     refine wI (fun h39 => ?_) (fun h39 => ?_)
                     ·skip
                      refine wS (I ((atoiV (cutA (pRead_r5 A)))) :: []) (wC (⟨241, [.tup [26], .tup []], .tup [29, .ni]⟩) (fun _ => q_cV (h := fun w hw => by exact atoi_t (HS.old hw) _ (show (((cutA (pRead_r5 A))).size : Int) ≤ 100000 by omega) h39)) ?_)
                      refine wI (fun h40 => ?_) (fun h40 => ?_)
                      ·skip
                       refine wS (.string ((itoaB ((atoiV (cutA (pRead_r5 A)))))) :: []) (wT .geq 29 (J 0) h40 (wC (⟨170, [.tup [29], .tup []], 30⟩) (fun _ => q_cV (h := fun w hw => by exact itoa_n (HS.old hw) _ (show -9223372036854775808 ≤ ((atoiV (cutA (pRead_r5 A)))) ∧ ((atoiV (cutA (pRead_r5 A)))) ≤ 9223372036854775807 by omega))) ?_))
                       refine wI (fun h41 => ?_) (fun h41 => ?_)
                       ·skip
                        refine wE (⟨tagB .eql, [30, 26], .bool true⟩) (fun _ => q_seq_t rfl rfl h41) ?_
                        refine wI (fun h42 => ?_) (fun h42 => ?_)
                        ·skip
                         have h43 : ((cutA (pRead_r6 A)).size : Int) ≤ ((pRead_r6 A).size : Int) := cutA_size _
                         have h44 : ((pRead_r7 A).size : Int) ≤ ((pRead_r6 A).size : Int) := cutR_size _
                         have h45 : -9223372036854775808 ≤ atoiV (cutA (pRead_r6 A)) ∧ atoiV (cutA (pRead_r6 A)) ≤ 9223372036854775807 := atoiV_rng _
                         refine wE (⟨102, [28], .bool false⟩) (fun _ => q_not (x := (cutF (pRead_r5 A))) rfl h42) ?_
                         refine wI (fun h46 => ?_) (fun h46 => ?_)
                         ·skip
                          refine wS (.string (cutA (pRead_r6 A)) :: .string (pRead_r7 A) :: []) (wC (⟨239, [.tup [27, .str 1 32], .tup []], .tup [31, 32, (.bool true)]⟩) (fun _ => q_cV (h := fun w hw => by have hb := h46; (try simp only [Bool.not_eq_true] at hb); rw [← hb]; exact cut_n (HS.old hw) _ (show ((pRead_r6 A).size : Int) ≤ 100000 by omega))) ?_)
                          refine wI (fun h47 => ?_) (fun h47 => ?_)
                          ·skip
                           refine wS (I ((atoiV (cutA (pRead_r6 A)))) :: []) (wC (⟨241, [.tup [31], .tup []], .tup [33, .ni]⟩) (fun _ => q_cV (h := fun w hw => by exact atoi_t (HS.old hw) _ (show (((cutA (pRead_r6 A))).size : Int) ≤ 100000 by omega) h47)) ?_)
                           refine wI (fun h48 => ?_) (fun h48 => ?_)
                           ·skip
                            refine wS (.string ((itoaB ((atoiV (cutA (pRead_r6 A)))))) :: []) (wT .geq 33 (J 0) h48 (wC (⟨170, [.tup [33], .tup []], 34⟩) (fun _ => q_cV (h := fun w hw => by exact itoa_n (HS.old hw) _ (show -9223372036854775808 ≤ ((atoiV (cutA (pRead_r6 A)))) ∧ ((atoiV (cutA (pRead_r6 A)))) ≤ 9223372036854775807 by omega))) ?_))
                            refine wI (fun h49 => ?_) (fun h49 => ?_)
                            ·skip
                             refine wE (⟨tagB .eql, [34, 31], .bool true⟩) (fun _ => q_seq_t rfl rfl h49) ?_
                             exact wY (.tup [.agg [.int .i64 0, .int .i64 0, .int .i64 0, .bs 1 0, .int .i64 0, .int .i64 0, .int .i64 0, .int .i64 0, .int .i64 0, .int .i64 0, .int .i64 0], .int .i64 4]) [1, 2]
                            ·skip
                             refine wE (⟨tagB .eql, [34, 31], .bool false⟩) (fun _ => q_seq_f rfl rfl h49) ?_
                             exact wY (.tup [.agg [.int .i64 0, .int .i64 0, .int .i64 0, .bs 1 0, .int .i64 0, .int .i64 0, .int .i64 0, .int .i64 0, .int .i64 0, .int .i64 0, .int .i64 0], .int .i64 4]) [1, 2]
                           ·skip
                            refine wF .geq 33 (J 0) h48 ?_
                            exact wY (.tup [.agg [.int .i64 0, .int .i64 0, .int .i64 0, .bs 1 0, .int .i64 0, .int .i64 0, .int .i64 0, .int .i64 0, .int .i64 0, .int .i64 0, .int .i64 0], .int .i64 4]) [1, 2]
                          ·skip
                           refine wC (⟨241, [.tup [31], .tup []], .tup [.top, .ifc 378 .top]⟩) (fun _ => q_cErr (h := fun w hw => atoi_f (HS.old hw) _ (show (((cutA (pRead_r6 A))).size : Int) ≤ 100000 by omega) h47)) ?_
                           exact wY (.tup [.agg [.int .i64 0, .int .i64 0, .int .i64 0, .bs 1 0, .int .i64 0, .int .i64 0, .int .i64 0, .int .i64 0, .int .i64 0, .int .i64 0, .int .i64 0], .int .i64 4]) [1, 2]
                         ·skip
                          refine wS (.string (cutA (pRead_r6 A)) :: .string (pRead_r7 A) :: []) (wC (⟨239, [.tup [27, .str 1 32], .tup []], .tup [31, 32, (.bool false)]⟩) (fun _ => q_cV (h := fun w hw => by have hb := h46; (try simp only [Bool.not_eq_true] at hb); rw [← hb]; exact cut_n (HS.old hw) _ (show ((pRead_r6 A).size : Int) ≤ 100000 by omega))) ?_)
                          refine wI (fun h47 => ?_) (fun h47 => ?_)
                          ·skip
                           refine wS (I ((atoiV (cutA (pRead_r6 A)))) :: []) (wC (⟨241, [.tup [31], .tup []], .tup [33, .ni]⟩) (fun _ => q_cV (h := fun w hw => by exact atoi_t (HS.old hw) _ (show (((cutA (pRead_r6 A))).size : Int) ≤ 100000 by omega) h47)) ?_)
                           refine wI (fun h48 => ?_) (fun h48 => ?_)
                           ·skip
                            refine wS (.string ((itoaB ((atoiV (cutA (pRead_r6 A)))))) :: []) (wT .geq 33 (J 0) h48 (wC (⟨170, [.tup [33], .tup []], 34⟩) (fun _ => q_cV (h := fun w hw => by exact itoa_n (HS.old hw) _ (show -9223372036854775808 ≤ ((atoiV (cutA (pRead_r6 A)))) ∧ ((atoiV (cutA (pRead_r6 A)))) ≤ 9223372036854775807 by omega))) ?_))
                            refine wI (fun h49 => ?_) (fun h49 => ?_)
                            ·skip
                             have h50 : checkN A.n ((⟨(atoiV (cutA A.s)), (atoiV (cutA (pRead_r1 A))), (atoiV (cutA (pRead_r2 A))), 2, (atoiV (cutA (pRead_r4 A))), (atoiV (cutA (pRead_r5 A))), ⟨(0), 0⟩, ⟨(0), 0⟩, (atoiV (cutA (pRead_r6 A)))⟩ : Po)) = 0 → ((0 ≤ (atoiV (cutA A.s)) ∧ (atoiV (cutA A.s)) ≤ 1000000) ∧ (0 ≤ ((atoiV (cutA (pRead_r1 A)))) ∧ ((atoiV (cutA (pRead_r1 A)))) ≤ 1000000) ∧ (0 ≤ ((atoiV (cutA (pRead_r2 A)))) ∧ ((atoiV (cutA (pRead_r2 A)))) ≤ 1000000) ∧ (0 ≤ ((atoiV (cutA (pRead_r4 A)))) ∧ ((atoiV (cutA (pRead_r4 A)))) ≤ 1000000) ∧ (0 ≤ ((atoiV (cutA (pRead_r5 A)))) ∧ ((atoiV (cutA (pRead_r5 A)))) ≤ 1000000) ∧ ((0 : Int) ≤ 0 ∧ (0 : Int) ≤ 1000000) ∧ ((0 : Int) ≤ 0 ∧ (0 : Int) ≤ 1000000) ∧ ((0 : Int) ≤ 0 ∧ (0 : Int) ≤ 1000000) ∧ ((0 : Int) ≤ 0 ∧ (0 : Int) ≤ 1000000) ∧ (0 ≤ ((atoiV (cutA (pRead_r6 A)))) ∧ ((atoiV (cutA (pRead_r6 A)))) ≤ 1000000)) ∧ ((1 : Int) ≤ 2 ∧ (2 : Int) ≤ 5) := formL_c
                             refine wE (⟨tagB .eql, [34, 31], .bool true⟩) (fun _ => q_seq_t rfl rfl h49) ?_
                             refine wI (fun h51 => ?_) (fun h51 => ?_)
                             ·skip
                              have h52 : ((lineN ((⟨(atoiV (cutA A.s)), (atoiV (cutA (pRead_r1 A))), (atoiV (cutA (pRead_r2 A))), 2, (atoiV (cutA (pRead_r4 A))), (atoiV (cutA (pRead_r5 A))), ⟨(0), 0⟩, ⟨(0), 0⟩, (atoiV (cutA (pRead_r6 A)))⟩ : Po))).size : Int) ≤ 100 := lineN_c (show ((0 ≤ (atoiV (cutA A.s)) ∧ (atoiV (cutA A.s)) ≤ 1000000) ∧ (0 ≤ ((atoiV (cutA (pRead_r1 A)))) ∧ ((atoiV (cutA (pRead_r1 A)))) ≤ 1000000) ∧ (0 ≤ ((atoiV (cutA (pRead_r2 A)))) ∧ ((atoiV (cutA (pRead_r2 A)))) ≤ 1000000) ∧ (0 ≤ ((atoiV (cutA (pRead_r4 A)))) ∧ ((atoiV (cutA (pRead_r4 A)))) ≤ 1000000) ∧ (0 ≤ ((atoiV (cutA (pRead_r5 A)))) ∧ ((atoiV (cutA (pRead_r5 A)))) ≤ 1000000) ∧ ((0 : Int) ≤ 0 ∧ (0 : Int) ≤ 1000000) ∧ ((0 : Int) ≤ 0 ∧ (0 : Int) ≤ 1000000) ∧ ((0 : Int) ≤ 0 ∧ (0 : Int) ≤ 1000000) ∧ ((0 : Int) ≤ 0 ∧ (0 : Int) ≤ 1000000) ∧ (0 ≤ ((atoiV (cutA (pRead_r6 A)))) ∧ ((atoiV (cutA (pRead_r6 A)))) ≤ 1000000)) ∧ ((1 : Int) ≤ 2 ∧ (2 : Int) ≤ 5) by omega)
                              refine wS (.string ((lineN ((⟨(atoiV (cutA A.s)), (atoiV (cutA (pRead_r1 A))), (atoiV (cutA (pRead_r2 A))), 2, (atoiV (cutA (pRead_r4 A))), (atoiV (cutA (pRead_r5 A))), ⟨(0), 0⟩, ⟨(0), 0⟩, (atoiV (cutA (pRead_r6 A)))⟩ : Po)))) :: []) (wC (⟨81, [.tup [1, .agg [6, 11, 16, .bs 1 2, 24, 29, J 0, J 0, J 0, J 0, 33]], .tup []], (.bool true)⟩) (fun _ => q_cV (h := fun w hw => by have hb := decide_eq_true h51; rw [← hb]; exact pFormed_c _ _)) (wC (⟨73, [.tup [.agg [6, 11, 16, .bs 1 2, 24, 29, J 0, J 0, J 0, J 0, 33]], .tup []], 35⟩) (fun _ => q_cV (h := fun w hw => by exact pLine_c (HS.old hw) (show ((0 ≤ (atoiV (cutA A.s)) ∧ (atoiV (cutA A.s)) ≤ 1000000) ∧ (0 ≤ ((atoiV (cutA (pRead_r1 A)))) ∧ ((atoiV (cutA (pRead_r1 A)))) ≤ 1000000) ∧ (0 ≤ ((atoiV (cutA (pRead_r2 A)))) ∧ ((atoiV (cutA (pRead_r2 A)))) ≤ 1000000) ∧ (0 ≤ ((atoiV (cutA (pRead_r4 A)))) ∧ ((atoiV (cutA (pRead_r4 A)))) ≤ 1000000) ∧ (0 ≤ ((atoiV (cutA (pRead_r5 A)))) ∧ ((atoiV (cutA (pRead_r5 A)))) ≤ 1000000) ∧ ((0 : Int) ≤ 0 ∧ (0 : Int) ≤ 1000000) ∧ ((0 : Int) ≤ 0 ∧ (0 : Int) ≤ 1000000) ∧ ((0 : Int) ≤ 0 ∧ (0 : Int) ≤ 1000000) ∧ ((0 : Int) ≤ 0 ∧ (0 : Int) ≤ 1000000) ∧ (0 ≤ ((atoiV (cutA (pRead_r6 A)))) ∧ ((atoiV (cutA (pRead_r6 A)))) ≤ 1000000)) ∧ ((1 : Int) ≤ 2 ∧ (2 : Int) ≤ 5) by omega))) ?_))
                              refine wI (fun h53 => ?_) (fun h53 => ?_)
                              ·skip
                               refine wE (⟨tagB .eql, [35, 2], .bool true⟩) (fun _ => q_seq_t rfl rfl h53) ?_
                               dsimp only [pRead_S]
                               exact wY (.tup [.agg [6, 11, 16, .bs 1 2, 24, 29, .int .i64 0, .int .i64 0, .int .i64 0, .int .i64 0, 33], .int .i64 0]) [1, 2]
                              ·skip
                               refine wE (⟨tagB .eql, [35, 2], .bool false⟩) (fun _ => q_seq_f rfl rfl h53) ?_
                               exact wY (.tup [.agg [.int .i64 0, .int .i64 0, .int .i64 0, .bs 1 0, .int .i64 0, .int .i64 0, .int .i64 0, .int .i64 0, .int .i64 0, .int .i64 0, .int .i64 0], .int .i64 4]) [1, 2]
                             ·skip
                              refine wC (⟨81, [.tup [1, .agg [6, 11, 16, .bs 1 2, 24, 29, J 0, J 0, J 0, J 0, 33]], .tup []], (.bool false)⟩) (fun _ => q_cV (h := fun w hw => by have hb := decide_eq_false h51; rw [← hb]; exact pFormed_c _ _)) ?_
                              exact wY (.tup [.agg [.int .i64 0, .int .i64 0, .int .i64 0, .bs 1 0, .int .i64 0, .int .i64 0, .int .i64 0, .int .i64 0, .int .i64 0, .int .i64 0, .int .i64 0], .int .i64 4]) [1, 2]
                            ·skip
                             refine wE (⟨tagB .eql, [34, 31], .bool false⟩) (fun _ => q_seq_f rfl rfl h49) ?_
                             exact wY (.tup [.agg [.int .i64 0, .int .i64 0, .int .i64 0, .bs 1 0, .int .i64 0, .int .i64 0, .int .i64 0, .int .i64 0, .int .i64 0, .int .i64 0, .int .i64 0], .int .i64 4]) [1, 2]
                           ·skip
                            refine wF .geq 33 (J 0) h48 ?_
                            exact wY (.tup [.agg [.int .i64 0, .int .i64 0, .int .i64 0, .bs 1 0, .int .i64 0, .int .i64 0, .int .i64 0, .int .i64 0, .int .i64 0, .int .i64 0, .int .i64 0], .int .i64 4]) [1, 2]
                          ·skip
                           refine wC (⟨241, [.tup [31], .tup []], .tup [.top, .ifc 378 .top]⟩) (fun _ => q_cErr (h := fun w hw => atoi_f (HS.old hw) _ (show (((cutA (pRead_r6 A))).size : Int) ≤ 100000 by omega) h47)) ?_
                           exact wY (.tup [.agg [.int .i64 0, .int .i64 0, .int .i64 0, .bs 1 0, .int .i64 0, .int .i64 0, .int .i64 0, .int .i64 0, .int .i64 0, .int .i64 0, .int .i64 0], .int .i64 4]) [1, 2]
                        ·skip
                         refine wE (⟨102, [28], .bool true⟩) (fun _ => q_not (x := (cutF (pRead_r5 A))) rfl (by have g := h42; revert g; cases (cutF (pRead_r5 A)) <;> simp)) ?_
                         exact wY (.tup [.agg [.int .i64 0, .int .i64 0, .int .i64 0, .bs 1 0, .int .i64 0, .int .i64 0, .int .i64 0, .int .i64 0, .int .i64 0, .int .i64 0, .int .i64 0], .int .i64 4]) [1, 2]
                       ·skip
                        refine wE (⟨tagB .eql, [30, 26], .bool false⟩) (fun _ => q_seq_f rfl rfl h41) ?_
                        exact wY (.tup [.agg [.int .i64 0, .int .i64 0, .int .i64 0, .bs 1 0, .int .i64 0, .int .i64 0, .int .i64 0, .int .i64 0, .int .i64 0, .int .i64 0, .int .i64 0], .int .i64 4]) [1, 2]
                      ·skip
                       refine wF .geq 29 (J 0) h40 ?_
                       exact wY (.tup [.agg [.int .i64 0, .int .i64 0, .int .i64 0, .bs 1 0, .int .i64 0, .int .i64 0, .int .i64 0, .int .i64 0, .int .i64 0, .int .i64 0, .int .i64 0], .int .i64 4]) [1, 2]
                     ·skip
                      refine wC (⟨241, [.tup [26], .tup []], .tup [.top, .ifc 378 .top]⟩) (fun _ => q_cErr (h := fun w hw => atoi_f (HS.old hw) _ (show (((cutA (pRead_r5 A))).size : Int) ≤ 100000 by omega) h39)) ?_
                      exact wY (.tup [.agg [.int .i64 0, .int .i64 0, .int .i64 0, .bs 1 0, .int .i64 0, .int .i64 0, .int .i64 0, .int .i64 0, .int .i64 0, .int .i64 0, .int .i64 0], .int .i64 4]) [1, 2]
                    ·skip
                     refine wE (⟨102, [23], .bool true⟩) (fun _ => q_not (x := (cutF (pRead_r4 A))) rfl (by have g := h35; revert g; cases (cutF (pRead_r4 A)) <;> simp)) ?_
                     exact wY (.tup [.agg [.int .i64 0, .int .i64 0, .int .i64 0, .bs 1 0, .int .i64 0, .int .i64 0, .int .i64 0, .int .i64 0, .int .i64 0, .int .i64 0, .int .i64 0], .int .i64 4]) [1, 2]
                   ·skip
                    refine wE (⟨tagB .eql, [25, 21], .bool false⟩) (fun _ => q_seq_f rfl rfl h34) ?_
                    exact wY (.tup [.agg [.int .i64 0, .int .i64 0, .int .i64 0, .bs 1 0, .int .i64 0, .int .i64 0, .int .i64 0, .int .i64 0, .int .i64 0, .int .i64 0, .int .i64 0], .int .i64 4]) [1, 2]
                  ·skip
                   refine wF .geq 24 (J 0) h33 ?_
                   exact wY (.tup [.agg [.int .i64 0, .int .i64 0, .int .i64 0, .bs 1 0, .int .i64 0, .int .i64 0, .int .i64 0, .int .i64 0, .int .i64 0, .int .i64 0, .int .i64 0], .int .i64 4]) [1, 2]
                 ·skip
                  refine wC (⟨241, [.tup [21], .tup []], .tup [.top, .ifc 378 .top]⟩) (fun _ => q_cErr (h := fun w hw => atoi_f (HS.old hw) _ (show (((cutA (pRead_r4 A))).size : Int) ≤ 100000 by omega) h32)) ?_
                  exact wY (.tup [.agg [.int .i64 0, .int .i64 0, .int .i64 0, .bs 1 0, .int .i64 0, .int .i64 0, .int .i64 0, .int .i64 0, .int .i64 0, .int .i64 0, .int .i64 0], .int .i64 4]) [1, 2]
                ·skip
                 refine wE (⟨102, [20], .bool true⟩) (fun _ => q_not (x := (cutF (pRead_r3 A))) rfl (by have g := h28; revert g; cases (cutF (pRead_r3 A)) <;> simp)) ?_
                 exact wY (.tup [.agg [.int .i64 0, .int .i64 0, .int .i64 0, .bs 1 0, .int .i64 0, .int .i64 0, .int .i64 0, .int .i64 0, .int .i64 0, .int .i64 0, .int .i64 0], .int .i64 4]) [1, 2]
               ·skip
                refine wE (⟨tagB .eql, [18, .str 3 6645094], .bool false⟩) (fun _ => q_seq_f rfl rfl h27) ?_
                refine wI (fun h28 => ?_) (fun h28 => ?_)
                ·skip
                 refine wE (⟨tagB .eql, [18, .str 4 1701536116], .bool true⟩) (fun _ => q_seq_t rfl rfl h28) ?_
                 refine wI (fun h29 => ?_) (fun h29 => ?_)
                 ·skip
                  have h30 : ((cutA (pRead_r4 A)).size : Int) ≤ ((pRead_r4 A).size : Int) := cutA_size _
                  have h31 : ((pRead_r5 A).size : Int) ≤ ((pRead_r4 A).size : Int) := cutR_size _
                  have h32 : -9223372036854775808 ≤ atoiV (cutA (pRead_r4 A)) ∧ atoiV (cutA (pRead_r4 A)) ≤ 9223372036854775807 := atoiV_rng _
                  refine wS (.string (cutA (pRead_r4 A)) :: .string (pRead_r5 A) :: .bool (cutF (pRead_r4 A)) :: []) (wE (⟨102, [20], .bool false⟩) (fun _ => q_not (x := (cutF (pRead_r3 A))) rfl h29) (wC (⟨239, [.tup [19, .str 1 32], .tup []], .tup [21, 22, 23]⟩) (fun _ => q_cV (h := fun w hw => by exact cut_n (HS.old hw) _ (show ((pRead_r4 A).size : Int) ≤ 100000 by omega))) ?_))
                  refine wI (fun h33 => ?_) (fun h33 => ?_)
                  ·skip
                   refine wS (I ((atoiV (cutA (pRead_r4 A)))) :: []) (wC (⟨241, [.tup [21], .tup []], .tup [24, .ni]⟩) (fun _ => q_cV (h := fun w hw => by exact atoi_t (HS.old hw) _ (show (((cutA (pRead_r4 A))).size : Int) ≤ 100000 by omega) h33)) ?_)
                   refine wI (fun h34 => ?_) (fun h34 => ?_)
                   ·skip
                    refine wS (.string ((itoaB ((atoiV (cutA (pRead_r4 A)))))) :: []) (wT .geq 24 (J 0) h34 (wC (⟨170, [.tup [24], .tup []], 25⟩) (fun _ => q_cV (h := fun w hw => by exact itoa_n (HS.old hw) _ (show -9223372036854775808 ≤ ((atoiV (cutA (pRead_r4 A)))) ∧ ((atoiV (cutA (pRead_r4 A)))) ≤ 9223372036854775807 by omega))) ?_))
                    refine wI (fun h35 => ?_) (fun h35 => ?_)
                    ·skip
                     refine wE (⟨tagB .eql, [25, 21], .bool true⟩) (fun _ => q_seq_t rfl rfl h35) ?_
                     refine wI (fun h36 => ?_) (fun h36 => ?_)
                     ·skip
                      have h37 : ((cutA (pRead_r5 A)).size : Int) ≤ ((pRead_r5 A).size : Int) := cutA_size _
                      have h38 : ((pRead_r6 A).size : Int) ≤ ((pRead_r5 A).size : Int) := cutR_size _
                      have h39 : -9223372036854775808 ≤ atoiV (cutA (pRead_r5 A)) ∧ atoiV (cutA (pRead_r5 A)) ≤ 9223372036854775807 := atoiV_rng _
                      refine wS (.string (cutA (pRead_r5 A)) :: .string (pRead_r6 A) :: .bool (cutF (pRead_r5 A)) :: []) (wE (⟨102, [23], .bool false⟩) (fun _ => q_not (x := (cutF (pRead_r4 A))) rfl h36) (wC (⟨239, [.tup [22, .str 1 32], .tup []], .tup [26, 27, 28]⟩) (fun _ => q_cV (h := fun w hw => by exact cut_n (HS.old hw) _ (show ((pRead_r5 A).size : Int) ≤ 100000 by omega))) ?_))
                      refine wI (fun h40 => ?_) (fun h40 => ?_)
                      ·skip
                       refine wS (I ((atoiV (cutA (pRead_r5 A)))) :: []) (wC (⟨241, [.tup [26], .tup []], .tup [29, .ni]⟩) (fun _ => q_cV (h := fun w hw => by exact atoi_t (HS.old hw) _ (show (((cutA (pRead_r5 A))).size : Int) ≤ 100000 by omega) h40)) ?_)
                       refine wI (fun h41 => ?_) (fun h41 => ?_)
                       ·skip
                        refine wS (.string ((itoaB ((atoiV (cutA (pRead_r5 A)))))) :: []) (wT .geq 29 (J 0) h41 (wC (⟨170, [.tup [29], .tup []], 30⟩) (fun _ => q_cV (h := fun w hw => by exact itoa_n (HS.old hw) _ (show -9223372036854775808 ≤ ((atoiV (cutA (pRead_r5 A)))) ∧ ((atoiV (cutA (pRead_r5 A)))) ≤ 9223372036854775807 by omega))) ?_))
                        refine wI (fun h42 => ?_) (fun h42 => ?_)
                        ·skip
                         refine wE (⟨tagB .eql, [30, 26], .bool true⟩) (fun _ => q_seq_t rfl rfl h42) ?_
                         refine wI (fun h43 => ?_) (fun h43 => ?_)
                         ·skip
                          have h44 : ((cutA (pRead_r6 A)).size : Int) ≤ ((pRead_r6 A).size : Int) := cutA_size _
                          have h45 : ((pRead_r7 A).size : Int) ≤ ((pRead_r6 A).size : Int) := cutR_size _
                          have h46 : -9223372036854775808 ≤ atoiV (cutA (pRead_r6 A)) ∧ atoiV (cutA (pRead_r6 A)) ≤ 9223372036854775807 := atoiV_rng _
                          refine wE (⟨102, [28], .bool false⟩) (fun _ => q_not (x := (cutF (pRead_r5 A))) rfl h43) ?_
                          refine wI (fun h47 => ?_) (fun h47 => ?_)
                          ·skip
                           refine wS (.string (cutA (pRead_r6 A)) :: .string (pRead_r7 A) :: []) (wC (⟨239, [.tup [27, .str 1 32], .tup []], .tup [31, 32, (.bool true)]⟩) (fun _ => q_cV (h := fun w hw => by have hb := h47; (try simp only [Bool.not_eq_true] at hb); rw [← hb]; exact cut_n (HS.old hw) _ (show ((pRead_r6 A).size : Int) ≤ 100000 by omega))) ?_)
                           refine wI (fun h48 => ?_) (fun h48 => ?_)
                           ·skip
                            refine wS (I ((atoiV (cutA (pRead_r6 A)))) :: []) (wC (⟨241, [.tup [31], .tup []], .tup [33, .ni]⟩) (fun _ => q_cV (h := fun w hw => by exact atoi_t (HS.old hw) _ (show (((cutA (pRead_r6 A))).size : Int) ≤ 100000 by omega) h48)) ?_)
                            refine wI (fun h49 => ?_) (fun h49 => ?_)
                            ·skip
                             refine wS (.string ((itoaB ((atoiV (cutA (pRead_r6 A)))))) :: []) (wT .geq 33 (J 0) h49 (wC (⟨170, [.tup [33], .tup []], 34⟩) (fun _ => q_cV (h := fun w hw => by exact itoa_n (HS.old hw) _ (show -9223372036854775808 ≤ ((atoiV (cutA (pRead_r6 A)))) ∧ ((atoiV (cutA (pRead_r6 A)))) ≤ 9223372036854775807 by omega))) ?_))
                             refine wI (fun h50 => ?_) (fun h50 => ?_)
                             ·skip
                              have h51 : ((cutA (pRead_r7 A)).size : Int) ≤ ((pRead_r7 A).size : Int) := cutA_size _
                              have h52 : ((pRead_r8 A).size : Int) ≤ ((pRead_r7 A).size : Int) := cutR_size _
                              have h53 : -9223372036854775808 ≤ atoiV (cutA (pRead_r7 A)) ∧ atoiV (cutA (pRead_r7 A)) ≤ 9223372036854775807 := atoiV_rng _
                              refine wS (.string (cutA (pRead_r7 A)) :: .string (pRead_r8 A) :: .bool (cutF (pRead_r7 A)) :: []) (wE (⟨tagB .eql, [34, 31], .bool true⟩) (fun _ => q_seq_t rfl rfl h50) (wC (⟨239, [.tup [32, .str 1 32], .tup []], .tup [35, 36, 37]⟩) (fun _ => q_cV (h := fun w hw => by exact cut_n (HS.old hw) _ (show ((pRead_r7 A).size : Int) ≤ 100000 by omega))) ?_))
                              refine wI (fun h54 => ?_) (fun h54 => ?_)
                              ·skip
                               refine wS (I ((atoiV (cutA (pRead_r7 A)))) :: []) (wC (⟨241, [.tup [35], .tup []], .tup [38, .ni]⟩) (fun _ => q_cV (h := fun w hw => by exact atoi_t (HS.old hw) _ (show (((cutA (pRead_r7 A))).size : Int) ≤ 100000 by omega) h54)) ?_)
                               refine wI (fun h55 => ?_) (fun h55 => ?_)
                               ·skip
                                refine wS (.string ((itoaB ((atoiV (cutA (pRead_r7 A)))))) :: []) (wT .geq 38 (J 0) h55 (wC (⟨170, [.tup [38], .tup []], 39⟩) (fun _ => q_cV (h := fun w hw => by exact itoa_n (HS.old hw) _ (show -9223372036854775808 ≤ ((atoiV (cutA (pRead_r7 A)))) ∧ ((atoiV (cutA (pRead_r7 A)))) ≤ 9223372036854775807 by omega))) ?_))
                                refine wI (fun h56 => ?_) (fun h56 => ?_)
                                ·skip
                                 refine wE (⟨tagB .eql, [39, 35], .bool true⟩) (fun _ => q_seq_t rfl rfl h56) ?_
                                 refine wI (fun h57 => ?_) (fun h57 => ?_)
                                 ·skip
                                  refine wE (⟨102, [37], .bool false⟩) (fun _ => q_not (x := (cutF (pRead_r7 A))) rfl h57) ?_
                                  exact wY (.tup [.agg [.int .i64 0, .int .i64 0, .int .i64 0, .bs 1 0, .int .i64 0, .int .i64 0, .int .i64 0, .int .i64 0, .int .i64 0, .int .i64 0, .int .i64 0], .int .i64 4]) [1, 2]
                                 ·skip
                                  have h58 : checkN A.n ((⟨(atoiV (cutA A.s)), (atoiV (cutA (pRead_r1 A))), (atoiV (cutA (pRead_r2 A))), 3, 0, (atoiV (cutA (pRead_r6 A))), ⟨(atoiV (cutA (pRead_r4 A))), (atoiV (cutA (pRead_r5 A)))⟩, ⟨(0), 0⟩, (atoiV (cutA (pRead_r7 A)))⟩ : Po)) = 0 → ((0 ≤ (atoiV (cutA A.s)) ∧ (atoiV (cutA A.s)) ≤ 1000000) ∧ (0 ≤ ((atoiV (cutA (pRead_r1 A)))) ∧ ((atoiV (cutA (pRead_r1 A)))) ≤ 1000000) ∧ (0 ≤ ((atoiV (cutA (pRead_r2 A)))) ∧ ((atoiV (cutA (pRead_r2 A)))) ≤ 1000000) ∧ ((0 : Int) ≤ 0 ∧ (0 : Int) ≤ 1000000) ∧ (0 ≤ ((atoiV (cutA (pRead_r6 A)))) ∧ ((atoiV (cutA (pRead_r6 A)))) ≤ 1000000) ∧ (0 ≤ ((atoiV (cutA (pRead_r4 A)))) ∧ ((atoiV (cutA (pRead_r4 A)))) ≤ 1000000) ∧ (0 ≤ ((atoiV (cutA (pRead_r5 A)))) ∧ ((atoiV (cutA (pRead_r5 A)))) ≤ 1000000) ∧ ((0 : Int) ≤ 0 ∧ (0 : Int) ≤ 1000000) ∧ ((0 : Int) ≤ 0 ∧ (0 : Int) ≤ 1000000) ∧ (0 ≤ ((atoiV (cutA (pRead_r7 A)))) ∧ ((atoiV (cutA (pRead_r7 A)))) ≤ 1000000)) ∧ ((1 : Int) ≤ 3 ∧ (3 : Int) ≤ 5) := formL_c
                                  refine wE (⟨102, [37], .bool true⟩) (fun _ => q_not (x := (cutF (pRead_r7 A))) rfl (by have g := h57; revert g; cases (cutF (pRead_r7 A)) <;> simp)) ?_
                                  refine wI (fun h59 => ?_) (fun h59 => ?_)
                                  ·skip
                                   have h60 : ((lineN ((⟨(atoiV (cutA A.s)), (atoiV (cutA (pRead_r1 A))), (atoiV (cutA (pRead_r2 A))), 3, 0, (atoiV (cutA (pRead_r6 A))), ⟨(atoiV (cutA (pRead_r4 A))), (atoiV (cutA (pRead_r5 A)))⟩, ⟨(0), 0⟩, (atoiV (cutA (pRead_r7 A)))⟩ : Po))).size : Int) ≤ 100 := lineN_c (show ((0 ≤ (atoiV (cutA A.s)) ∧ (atoiV (cutA A.s)) ≤ 1000000) ∧ (0 ≤ ((atoiV (cutA (pRead_r1 A)))) ∧ ((atoiV (cutA (pRead_r1 A)))) ≤ 1000000) ∧ (0 ≤ ((atoiV (cutA (pRead_r2 A)))) ∧ ((atoiV (cutA (pRead_r2 A)))) ≤ 1000000) ∧ ((0 : Int) ≤ 0 ∧ (0 : Int) ≤ 1000000) ∧ (0 ≤ ((atoiV (cutA (pRead_r6 A)))) ∧ ((atoiV (cutA (pRead_r6 A)))) ≤ 1000000) ∧ (0 ≤ ((atoiV (cutA (pRead_r4 A)))) ∧ ((atoiV (cutA (pRead_r4 A)))) ≤ 1000000) ∧ (0 ≤ ((atoiV (cutA (pRead_r5 A)))) ∧ ((atoiV (cutA (pRead_r5 A)))) ≤ 1000000) ∧ ((0 : Int) ≤ 0 ∧ (0 : Int) ≤ 1000000) ∧ ((0 : Int) ≤ 0 ∧ (0 : Int) ≤ 1000000) ∧ (0 ≤ ((atoiV (cutA (pRead_r7 A)))) ∧ ((atoiV (cutA (pRead_r7 A)))) ≤ 1000000)) ∧ ((1 : Int) ≤ 3 ∧ (3 : Int) ≤ 5) by omega)
                                   refine wS (.string ((lineN ((⟨(atoiV (cutA A.s)), (atoiV (cutA (pRead_r1 A))), (atoiV (cutA (pRead_r2 A))), 3, 0, (atoiV (cutA (pRead_r6 A))), ⟨(atoiV (cutA (pRead_r4 A))), (atoiV (cutA (pRead_r5 A)))⟩, ⟨(0), 0⟩, (atoiV (cutA (pRead_r7 A)))⟩ : Po)))) :: []) (wC (⟨81, [.tup [1, .agg [6, 11, 16, .bs 1 3, J 0, 33, 24, 29, J 0, J 0, 38]], .tup []], (.bool true)⟩) (fun _ => q_cV (h := fun w hw => by have hb := decide_eq_true h59; rw [← hb]; exact pFormed_c _ _)) (wC (⟨73, [.tup [.agg [6, 11, 16, .bs 1 3, J 0, 33, 24, 29, J 0, J 0, 38]], .tup []], 40⟩) (fun _ => q_cV (h := fun w hw => by exact pLine_c (HS.old hw) (show ((0 ≤ (atoiV (cutA A.s)) ∧ (atoiV (cutA A.s)) ≤ 1000000) ∧ (0 ≤ ((atoiV (cutA (pRead_r1 A)))) ∧ ((atoiV (cutA (pRead_r1 A)))) ≤ 1000000) ∧ (0 ≤ ((atoiV (cutA (pRead_r2 A)))) ∧ ((atoiV (cutA (pRead_r2 A)))) ≤ 1000000) ∧ ((0 : Int) ≤ 0 ∧ (0 : Int) ≤ 1000000) ∧ (0 ≤ ((atoiV (cutA (pRead_r6 A)))) ∧ ((atoiV (cutA (pRead_r6 A)))) ≤ 1000000) ∧ (0 ≤ ((atoiV (cutA (pRead_r4 A)))) ∧ ((atoiV (cutA (pRead_r4 A)))) ≤ 1000000) ∧ (0 ≤ ((atoiV (cutA (pRead_r5 A)))) ∧ ((atoiV (cutA (pRead_r5 A)))) ≤ 1000000) ∧ ((0 : Int) ≤ 0 ∧ (0 : Int) ≤ 1000000) ∧ ((0 : Int) ≤ 0 ∧ (0 : Int) ≤ 1000000) ∧ (0 ≤ ((atoiV (cutA (pRead_r7 A)))) ∧ ((atoiV (cutA (pRead_r7 A)))) ≤ 1000000)) ∧ ((1 : Int) ≤ 3 ∧ (3 : Int) ≤ 5) by omega))) ?_))
                                   refine wI (fun h61 => ?_) (fun h61 => ?_)
                                   ·skip
                                    refine wE (⟨tagB .eql, [40, 2], .bool true⟩) (fun _ => q_seq_t rfl rfl h61) ?_
                                    dsimp only [pRead_S]
                                    exact wY (.tup [.agg [6, 11, 16, .bs 1 3, .int .i64 0, 33, 24, 29, .int .i64 0, .int .i64 0, 38], .int .i64 0]) [1, 2]
                                   ·skip
                                    refine wE (⟨tagB .eql, [40, 2], .bool false⟩) (fun _ => q_seq_f rfl rfl h61) ?_
                                    exact wY (.tup [.agg [.int .i64 0, .int .i64 0, .int .i64 0, .bs 1 0, .int .i64 0, .int .i64 0, .int .i64 0, .int .i64 0, .int .i64 0, .int .i64 0, .int .i64 0], .int .i64 4]) [1, 2]
                                  ·skip
                                   refine wC (⟨81, [.tup [1, .agg [6, 11, 16, .bs 1 3, J 0, 33, 24, 29, J 0, J 0, 38]], .tup []], (.bool false)⟩) (fun _ => q_cV (h := fun w hw => by have hb := decide_eq_false h59; rw [← hb]; exact pFormed_c _ _)) ?_
                                   exact wY (.tup [.agg [.int .i64 0, .int .i64 0, .int .i64 0, .bs 1 0, .int .i64 0, .int .i64 0, .int .i64 0, .int .i64 0, .int .i64 0, .int .i64 0, .int .i64 0], .int .i64 4]) [1, 2]
                                ·skip
                                 refine wE (⟨tagB .eql, [39, 35], .bool false⟩) (fun _ => q_seq_f rfl rfl h56) ?_
                                 exact wY (.tup [.agg [.int .i64 0, .int .i64 0, .int .i64 0, .bs 1 0, .int .i64 0, .int .i64 0, .int .i64 0, .int .i64 0, .int .i64 0, .int .i64 0, .int .i64 0], .int .i64 4]) [1, 2]
                               ·skip
                                refine wF .geq 38 (J 0) h55 ?_
                                exact wY (.tup [.agg [.int .i64 0, .int .i64 0, .int .i64 0, .bs 1 0, .int .i64 0, .int .i64 0, .int .i64 0, .int .i64 0, .int .i64 0, .int .i64 0, .int .i64 0], .int .i64 4]) [1, 2]
                              ·skip
                               refine wC (⟨241, [.tup [35], .tup []], .tup [.top, .ifc 378 .top]⟩) (fun _ => q_cErr (h := fun w hw => atoi_f (HS.old hw) _ (show (((cutA (pRead_r7 A))).size : Int) ≤ 100000 by omega) h54)) ?_
                               exact wY (.tup [.agg [.int .i64 0, .int .i64 0, .int .i64 0, .bs 1 0, .int .i64 0, .int .i64 0, .int .i64 0, .int .i64 0, .int .i64 0, .int .i64 0, .int .i64 0], .int .i64 4]) [1, 2]
                             ·skip
                              refine wE (⟨tagB .eql, [34, 31], .bool false⟩) (fun _ => q_seq_f rfl rfl h50) ?_
                              exact wY (.tup [.agg [.int .i64 0, .int .i64 0, .int .i64 0, .bs 1 0, .int .i64 0, .int .i64 0, .int .i64 0, .int .i64 0, .int .i64 0, .int .i64 0, .int .i64 0], .int .i64 4]) [1, 2]
                            ·skip
                             refine wF .geq 33 (J 0) h49 ?_
                             exact wY (.tup [.agg [.int .i64 0, .int .i64 0, .int .i64 0, .bs 1 0, .int .i64 0, .int .i64 0, .int .i64 0, .int .i64 0, .int .i64 0, .int .i64 0, .int .i64 0], .int .i64 4]) [1, 2]
                           ·skip
                            refine wC (⟨241, [.tup [31], .tup []], .tup [.top, .ifc 378 .top]⟩) (fun _ => q_cErr (h := fun w hw => atoi_f (HS.old hw) _ (show (((cutA (pRead_r6 A))).size : Int) ≤ 100000 by omega) h48)) ?_
                            exact wY (.tup [.agg [.int .i64 0, .int .i64 0, .int .i64 0, .bs 1 0, .int .i64 0, .int .i64 0, .int .i64 0, .int .i64 0, .int .i64 0, .int .i64 0, .int .i64 0], .int .i64 4]) [1, 2]
                          ·skip
                           refine wS (.string (cutA (pRead_r6 A)) :: .string (pRead_r7 A) :: []) (wC (⟨239, [.tup [27, .str 1 32], .tup []], .tup [31, 32, (.bool false)]⟩) (fun _ => q_cV (h := fun w hw => by have hb := h47; (try simp only [Bool.not_eq_true] at hb); rw [← hb]; exact cut_n (HS.old hw) _ (show ((pRead_r6 A).size : Int) ≤ 100000 by omega))) ?_)
                           refine wI (fun h48 => ?_) (fun h48 => ?_)
                           ·skip
                            refine wS (I ((atoiV (cutA (pRead_r6 A)))) :: []) (wC (⟨241, [.tup [31], .tup []], .tup [33, .ni]⟩) (fun _ => q_cV (h := fun w hw => by exact atoi_t (HS.old hw) _ (show (((cutA (pRead_r6 A))).size : Int) ≤ 100000 by omega) h48)) ?_)
                            refine wI (fun h49 => ?_) (fun h49 => ?_)
                            ·skip
                             refine wS (.string ((itoaB ((atoiV (cutA (pRead_r6 A)))))) :: []) (wT .geq 33 (J 0) h49 (wC (⟨170, [.tup [33], .tup []], 34⟩) (fun _ => q_cV (h := fun w hw => by exact itoa_n (HS.old hw) _ (show -9223372036854775808 ≤ ((atoiV (cutA (pRead_r6 A)))) ∧ ((atoiV (cutA (pRead_r6 A)))) ≤ 9223372036854775807 by omega))) ?_))
                             refine wI (fun h50 => ?_) (fun h50 => ?_)
                             ·skip
                              refine wE (⟨tagB .eql, [34, 31], .bool true⟩) (fun _ => q_seq_t rfl rfl h50) ?_
                              exact wY (.tup [.agg [.int .i64 0, .int .i64 0, .int .i64 0, .bs 1 0, .int .i64 0, .int .i64 0, .int .i64 0, .int .i64 0, .int .i64 0, .int .i64 0, .int .i64 0], .int .i64 4]) [1, 2]
                             ·skip
                              refine wE (⟨tagB .eql, [34, 31], .bool false⟩) (fun _ => q_seq_f rfl rfl h50) ?_
                              exact wY (.tup [.agg [.int .i64 0, .int .i64 0, .int .i64 0, .bs 1 0, .int .i64 0, .int .i64 0, .int .i64 0, .int .i64 0, .int .i64 0, .int .i64 0, .int .i64 0], .int .i64 4]) [1, 2]
                            ·skip
                             refine wF .geq 33 (J 0) h49 ?_
                             exact wY (.tup [.agg [.int .i64 0, .int .i64 0, .int .i64 0, .bs 1 0, .int .i64 0, .int .i64 0, .int .i64 0, .int .i64 0, .int .i64 0, .int .i64 0, .int .i64 0], .int .i64 4]) [1, 2]
                           ·skip
                            refine wC (⟨241, [.tup [31], .tup []], .tup [.top, .ifc 378 .top]⟩) (fun _ => q_cErr (h := fun w hw => atoi_f (HS.old hw) _ (show (((cutA (pRead_r6 A))).size : Int) ≤ 100000 by omega) h48)) ?_
                            exact wY (.tup [.agg [.int .i64 0, .int .i64 0, .int .i64 0, .bs 1 0, .int .i64 0, .int .i64 0, .int .i64 0, .int .i64 0, .int .i64 0, .int .i64 0, .int .i64 0], .int .i64 4]) [1, 2]
                         ·skip
                          refine wE (⟨102, [28], .bool true⟩) (fun _ => q_not (x := (cutF (pRead_r5 A))) rfl (by have g := h43; revert g; cases (cutF (pRead_r5 A)) <;> simp)) ?_
                          exact wY (.tup [.agg [.int .i64 0, .int .i64 0, .int .i64 0, .bs 1 0, .int .i64 0, .int .i64 0, .int .i64 0, .int .i64 0, .int .i64 0, .int .i64 0, .int .i64 0], .int .i64 4]) [1, 2]
                        ·skip
                         refine wE (⟨tagB .eql, [30, 26], .bool false⟩) (fun _ => q_seq_f rfl rfl h42) ?_
                         exact wY (.tup [.agg [.int .i64 0, .int .i64 0, .int .i64 0, .bs 1 0, .int .i64 0, .int .i64 0, .int .i64 0, .int .i64 0, .int .i64 0, .int .i64 0, .int .i64 0], .int .i64 4]) [1, 2]
                       ·skip
                        refine wF .geq 29 (J 0) h41 ?_
                        exact wY (.tup [.agg [.int .i64 0, .int .i64 0, .int .i64 0, .bs 1 0, .int .i64 0, .int .i64 0, .int .i64 0, .int .i64 0, .int .i64 0, .int .i64 0, .int .i64 0], .int .i64 4]) [1, 2]
                      ·skip
                       refine wC (⟨241, [.tup [26], .tup []], .tup [.top, .ifc 378 .top]⟩) (fun _ => q_cErr (h := fun w hw => atoi_f (HS.old hw) _ (show (((cutA (pRead_r5 A))).size : Int) ≤ 100000 by omega) h40)) ?_
                       exact wY (.tup [.agg [.int .i64 0, .int .i64 0, .int .i64 0, .bs 1 0, .int .i64 0, .int .i64 0, .int .i64 0, .int .i64 0, .int .i64 0, .int .i64 0, .int .i64 0], .int .i64 4]) [1, 2]
                     ·skip
                      refine wE (⟨102, [23], .bool true⟩) (fun _ => q_not (x := (cutF (pRead_r4 A))) rfl (by have g := h36; revert g; cases (cutF (pRead_r4 A)) <;> simp)) ?_
                      exact wY (.tup [.agg [.int .i64 0, .int .i64 0, .int .i64 0, .bs 1 0, .int .i64 0, .int .i64 0, .int .i64 0, .int .i64 0, .int .i64 0, .int .i64 0, .int .i64 0], .int .i64 4]) [1, 2]
                    ·skip
                     refine wE (⟨tagB .eql, [25, 21], .bool false⟩) (fun _ => q_seq_f rfl rfl h35) ?_
                     exact wY (.tup [.agg [.int .i64 0, .int .i64 0, .int .i64 0, .bs 1 0, .int .i64 0, .int .i64 0, .int .i64 0, .int .i64 0, .int .i64 0, .int .i64 0, .int .i64 0], .int .i64 4]) [1, 2]
                   ·skip
                    refine wF .geq 24 (J 0) h34 ?_
                    exact wY (.tup [.agg [.int .i64 0, .int .i64 0, .int .i64 0, .bs 1 0, .int .i64 0, .int .i64 0, .int .i64 0, .int .i64 0, .int .i64 0, .int .i64 0, .int .i64 0], .int .i64 4]) [1, 2]
                  ·skip
                   refine wC (⟨241, [.tup [21], .tup []], .tup [.top, .ifc 378 .top]⟩) (fun _ => q_cErr (h := fun w hw => atoi_f (HS.old hw) _ (show (((cutA (pRead_r4 A))).size : Int) ≤ 100000 by omega) h33)) ?_
                   exact wY (.tup [.agg [.int .i64 0, .int .i64 0, .int .i64 0, .bs 1 0, .int .i64 0, .int .i64 0, .int .i64 0, .int .i64 0, .int .i64 0, .int .i64 0, .int .i64 0], .int .i64 4]) [1, 2]
                 ·skip
                  refine wE (⟨102, [20], .bool true⟩) (fun _ => q_not (x := (cutF (pRead_r3 A))) rfl (by have g := h29; revert g; cases (cutF (pRead_r3 A)) <;> simp)) ?_
                  exact wY (.tup [.agg [.int .i64 0, .int .i64 0, .int .i64 0, .bs 1 0, .int .i64 0, .int .i64 0, .int .i64 0, .int .i64 0, .int .i64 0, .int .i64 0, .int .i64 0], .int .i64 4]) [1, 2]
                ·skip
                 refine wE (⟨tagB .eql, [18, .str 4 1701536116], .bool false⟩) (fun _ => q_seq_f rfl rfl h28) ?_
                 refine wI (fun h29 => ?_) (fun h29 => ?_)
                 ·skip
                  refine wE (⟨tagB .eql, [18, .str 3 7954800], .bool true⟩) (fun _ => q_seq_t rfl rfl h29) ?_
                  refine wI (fun h30 => ?_) (fun h30 => ?_)
                  ·skip
                   have h31 : ((cutA (pRead_r4 A)).size : Int) ≤ ((pRead_r4 A).size : Int) := cutA_size _
                   have h32 : ((pRead_r5 A).size : Int) ≤ ((pRead_r4 A).size : Int) := cutR_size _
                   have h33 : -9223372036854775808 ≤ atoiV (cutA (pRead_r4 A)) ∧ atoiV (cutA (pRead_r4 A)) ≤ 9223372036854775807 := atoiV_rng _
                   refine wS (.string (cutA (pRead_r4 A)) :: .string (pRead_r5 A) :: .bool (cutF (pRead_r4 A)) :: []) (wE (⟨102, [20], .bool false⟩) (fun _ => q_not (x := (cutF (pRead_r3 A))) rfl h30) (wC (⟨239, [.tup [19, .str 1 32], .tup []], .tup [21, 22, 23]⟩) (fun _ => q_cV (h := fun w hw => by exact cut_n (HS.old hw) _ (show ((pRead_r4 A).size : Int) ≤ 100000 by omega))) ?_))
                   refine wI (fun h34 => ?_) (fun h34 => ?_)
                   ·skip
                    refine wS (I ((atoiV (cutA (pRead_r4 A)))) :: []) (wC (⟨241, [.tup [21], .tup []], .tup [24, .ni]⟩) (fun _ => q_cV (h := fun w hw => by exact atoi_t (HS.old hw) _ (show (((cutA (pRead_r4 A))).size : Int) ≤ 100000 by omega) h34)) ?_)
                    refine wI (fun h35 => ?_) (fun h35 => ?_)
                    ·skip
                     refine wS (.string ((itoaB ((atoiV (cutA (pRead_r4 A)))))) :: []) (wT .geq 24 (J 0) h35 (wC (⟨170, [.tup [24], .tup []], 25⟩) (fun _ => q_cV (h := fun w hw => by exact itoa_n (HS.old hw) _ (show -9223372036854775808 ≤ ((atoiV (cutA (pRead_r4 A)))) ∧ ((atoiV (cutA (pRead_r4 A)))) ≤ 9223372036854775807 by omega))) ?_))
                     refine wI (fun h36 => ?_) (fun h36 => ?_)
                     ·skip
                      refine wE (⟨tagB .eql, [25, 21], .bool true⟩) (fun _ => q_seq_t rfl rfl h36) ?_
                      refine wI (fun h37 => ?_) (fun h37 => ?_)
                      ·skip
                       have h38 : ((cutA (pRead_r5 A)).size : Int) ≤ ((pRead_r5 A).size : Int) := cutA_size _
                       have h39 : ((pRead_r6 A).size : Int) ≤ ((pRead_r5 A).size : Int) := cutR_size _
                       have h40 : -9223372036854775808 ≤ atoiV (cutA (pRead_r5 A)) ∧ atoiV (cutA (pRead_r5 A)) ≤ 9223372036854775807 := atoiV_rng _
                       refine wS (.string (cutA (pRead_r5 A)) :: .string (pRead_r6 A) :: .bool (cutF (pRead_r5 A)) :: []) (wE (⟨102, [23], .bool false⟩) (fun _ => q_not (x := (cutF (pRead_r4 A))) rfl h37) (wC (⟨239, [.tup [22, .str 1 32], .tup []], .tup [26, 27, 28]⟩) (fun _ => q_cV (h := fun w hw => by exact cut_n (HS.old hw) _ (show ((pRead_r5 A).size : Int) ≤ 100000 by omega))) ?_))
                       refine wI (fun h41 => ?_) (fun h41 => ?_)
                       ·skip
                        refine wS (I ((atoiV (cutA (pRead_r5 A)))) :: []) (wC (⟨241, [.tup [26], .tup []], .tup [29, .ni]⟩) (fun _ => q_cV (h := fun w hw => by exact atoi_t (HS.old hw) _ (show (((cutA (pRead_r5 A))).size : Int) ≤ 100000 by omega) h41)) ?_)
                        refine wI (fun h42 => ?_) (fun h42 => ?_)
                        ·skip
                         refine wS (.string ((itoaB ((atoiV (cutA (pRead_r5 A)))))) :: []) (wT .geq 29 (J 0) h42 (wC (⟨170, [.tup [29], .tup []], 30⟩) (fun _ => q_cV (h := fun w hw => by exact itoa_n (HS.old hw) _ (show -9223372036854775808 ≤ ((atoiV (cutA (pRead_r5 A)))) ∧ ((atoiV (cutA (pRead_r5 A)))) ≤ 9223372036854775807 by omega))) ?_))
                         refine wI (fun h43 => ?_) (fun h43 => ?_)
                         ·skip
                          refine wE (⟨tagB .eql, [30, 26], .bool true⟩) (fun _ => q_seq_t rfl rfl h43) ?_
                          refine wI (fun h44 => ?_) (fun h44 => ?_)
                          ·skip
                           have h45 : ((cutA (pRead_r6 A)).size : Int) ≤ ((pRead_r6 A).size : Int) := cutA_size _
                           have h46 : ((pRead_r7 A).size : Int) ≤ ((pRead_r6 A).size : Int) := cutR_size _
                           have h47 : -9223372036854775808 ≤ atoiV (cutA (pRead_r6 A)) ∧ atoiV (cutA (pRead_r6 A)) ≤ 9223372036854775807 := atoiV_rng _
                           refine wE (⟨102, [28], .bool false⟩) (fun _ => q_not (x := (cutF (pRead_r5 A))) rfl h44) ?_
                           refine wI (fun h48 => ?_) (fun h48 => ?_)
                           ·skip
                            refine wS (.string (cutA (pRead_r6 A)) :: .string (pRead_r7 A) :: []) (wC (⟨239, [.tup [27, .str 1 32], .tup []], .tup [31, 32, (.bool true)]⟩) (fun _ => q_cV (h := fun w hw => by have hb := h48; (try simp only [Bool.not_eq_true] at hb); rw [← hb]; exact cut_n (HS.old hw) _ (show ((pRead_r6 A).size : Int) ≤ 100000 by omega))) ?_)
                            refine wI (fun h49 => ?_) (fun h49 => ?_)
                            ·skip
                             refine wS (I ((atoiV (cutA (pRead_r6 A)))) :: []) (wC (⟨241, [.tup [31], .tup []], .tup [33, .ni]⟩) (fun _ => q_cV (h := fun w hw => by exact atoi_t (HS.old hw) _ (show (((cutA (pRead_r6 A))).size : Int) ≤ 100000 by omega) h49)) ?_)
                             refine wI (fun h50 => ?_) (fun h50 => ?_)
                             ·skip
                              refine wS (.string ((itoaB ((atoiV (cutA (pRead_r6 A)))))) :: []) (wT .geq 33 (J 0) h50 (wC (⟨170, [.tup [33], .tup []], 34⟩) (fun _ => q_cV (h := fun w hw => by exact itoa_n (HS.old hw) _ (show -9223372036854775808 ≤ ((atoiV (cutA (pRead_r6 A)))) ∧ ((atoiV (cutA (pRead_r6 A)))) ≤ 9223372036854775807 by omega))) ?_))
                              refine wI (fun h51 => ?_) (fun h51 => ?_)
                              ·skip
                               have h52 : ((cutA (pRead_r7 A)).size : Int) ≤ ((pRead_r7 A).size : Int) := cutA_size _
                               have h53 : ((pRead_r8 A).size : Int) ≤ ((pRead_r7 A).size : Int) := cutR_size _
                               have h54 : -9223372036854775808 ≤ atoiV (cutA (pRead_r7 A)) ∧ atoiV (cutA (pRead_r7 A)) ≤ 9223372036854775807 := atoiV_rng _
                               refine wS (.string (cutA (pRead_r7 A)) :: .string (pRead_r8 A) :: .bool (cutF (pRead_r7 A)) :: []) (wE (⟨tagB .eql, [34, 31], .bool true⟩) (fun _ => q_seq_t rfl rfl h51) (wC (⟨239, [.tup [32, .str 1 32], .tup []], .tup [35, 36, 37]⟩) (fun _ => q_cV (h := fun w hw => by exact cut_n (HS.old hw) _ (show ((pRead_r7 A).size : Int) ≤ 100000 by omega))) ?_))
                               refine wI (fun h55 => ?_) (fun h55 => ?_)
                               ·skip
                                refine wE (⟨tagB .eql, [35, .str 2 31074], .bool true⟩) (fun _ => q_seq_t rfl rfl h55) ?_
                                refine wI (fun h56 => ?_) (fun h56 => ?_)
                                ·skip
                                 have h57 : ((cutA (pRead_r8 A)).size : Int) ≤ ((pRead_r8 A).size : Int) := cutA_size _
                                 have h58 : ((pRead_r9 A).size : Int) ≤ ((pRead_r8 A).size : Int) := cutR_size _
                                 have h59 : -9223372036854775808 ≤ atoiV (cutA (pRead_r8 A)) ∧ atoiV (cutA (pRead_r8 A)) ≤ 9223372036854775807 := atoiV_rng _
                                 refine wS (.string (cutA (pRead_r8 A)) :: .string (pRead_r9 A) :: .bool (cutF (pRead_r8 A)) :: []) (wE (⟨102, [37], .bool false⟩) (fun _ => q_not (x := (cutF (pRead_r7 A))) rfl h56) (wC (⟨239, [.tup [36, .str 1 32], .tup []], .tup [38, 39, 40]⟩) (fun _ => q_cV (h := fun w hw => by exact cut_n (HS.old hw) _ (show ((pRead_r8 A).size : Int) ≤ 100000 by omega))) ?_))
                                 refine wI (fun h60 => ?_) (fun h60 => ?_)
                                 ·skip
                                  refine wS (I ((atoiV (cutA (pRead_r8 A)))) :: []) (wC (⟨241, [.tup [38], .tup []], .tup [41, .ni]⟩) (fun _ => q_cV (h := fun w hw => by exact atoi_t (HS.old hw) _ (show (((cutA (pRead_r8 A))).size : Int) ≤ 100000 by omega) h60)) ?_)
                                  refine wI (fun h61 => ?_) (fun h61 => ?_)
                                  ·skip
                                   refine wS (.string ((itoaB ((atoiV (cutA (pRead_r8 A)))))) :: []) (wT .geq 41 (J 0) h61 (wC (⟨170, [.tup [41], .tup []], 42⟩) (fun _ => q_cV (h := fun w hw => by exact itoa_n (HS.old hw) _ (show -9223372036854775808 ≤ ((atoiV (cutA (pRead_r8 A)))) ∧ ((atoiV (cutA (pRead_r8 A)))) ≤ 9223372036854775807 by omega))) ?_))
                                   refine wI (fun h62 => ?_) (fun h62 => ?_)
                                   ·skip
                                    refine wE (⟨tagB .eql, [42, 38], .bool true⟩) (fun _ => q_seq_t rfl rfl h62) ?_
                                    refine wI (fun h63 => ?_) (fun h63 => ?_)
                                    ·skip
                                     have h64 : ((cutA (pRead_r9 A)).size : Int) ≤ ((pRead_r9 A).size : Int) := cutA_size _
                                     have h65 : ((pRead_r10 A).size : Int) ≤ ((pRead_r9 A).size : Int) := cutR_size _
                                     have h66 : -9223372036854775808 ≤ atoiV (cutA (pRead_r9 A)) ∧ atoiV (cutA (pRead_r9 A)) ≤ 9223372036854775807 := atoiV_rng _
                                     refine wS (.string (cutA (pRead_r9 A)) :: .string (pRead_r10 A) :: .bool (cutF (pRead_r9 A)) :: []) (wE (⟨102, [40], .bool false⟩) (fun _ => q_not (x := (cutF (pRead_r8 A))) rfl h63) (wC (⟨239, [.tup [39, .str 1 32], .tup []], .tup [43, 44, 45]⟩) (fun _ => q_cV (h := fun w hw => by exact cut_n (HS.old hw) _ (show ((pRead_r9 A).size : Int) ≤ 100000 by omega))) ?_))
                                     refine wI (fun h67 => ?_) (fun h67 => ?_)
                                     ·skip
                                      refine wS (I ((atoiV (cutA (pRead_r9 A)))) :: []) (wC (⟨241, [.tup [43], .tup []], .tup [46, .ni]⟩) (fun _ => q_cV (h := fun w hw => by exact atoi_t (HS.old hw) _ (show (((cutA (pRead_r9 A))).size : Int) ≤ 100000 by omega) h67)) ?_)
                                      refine wI (fun h68 => ?_) (fun h68 => ?_)
                                      ·skip
                                       refine wS (.string ((itoaB ((atoiV (cutA (pRead_r9 A)))))) :: []) (wT .geq 46 (J 0) h68 (wC (⟨170, [.tup [46], .tup []], 47⟩) (fun _ => q_cV (h := fun w hw => by exact itoa_n (HS.old hw) _ (show -9223372036854775808 ≤ ((atoiV (cutA (pRead_r9 A)))) ∧ ((atoiV (cutA (pRead_r9 A)))) ≤ 9223372036854775807 by omega))) ?_))
                                       refine wI (fun h69 => ?_) (fun h69 => ?_)
                                       ·skip
                                        refine wE (⟨tagB .eql, [47, 43], .bool true⟩) (fun _ => q_seq_t rfl rfl h69) ?_
                                        refine wI (fun h70 => ?_) (fun h70 => ?_)
                                        ·skip
                                         refine wE (⟨102, [45], .bool false⟩) (fun _ => q_not (x := (cutF (pRead_r9 A))) rfl h70) ?_
                                         exact wY (.tup [.agg [.int .i64 0, .int .i64 0, .int .i64 0, .bs 1 0, .int .i64 0, .int .i64 0, .int .i64 0, .int .i64 0, .int .i64 0, .int .i64 0, .int .i64 0], .int .i64 4]) [1, 2]
                                        ·skip
                                         have h71 : checkN A.n ((⟨(atoiV (cutA A.s)), (atoiV (cutA (pRead_r1 A))), (atoiV (cutA (pRead_r2 A))), 4, 0, (atoiV (cutA (pRead_r5 A))), ⟨(atoiV (cutA A.s)), (atoiV (cutA (pRead_r4 A)))⟩, ⟨(atoiV (cutA (pRead_r8 A))), (atoiV (cutA (pRead_r9 A)))⟩, (atoiV (cutA (pRead_r6 A)))⟩ : Po)) = 0 → ((0 ≤ (atoiV (cutA A.s)) ∧ (atoiV (cutA A.s)) ≤ 1000000) ∧ (0 ≤ ((atoiV (cutA (pRead_r1 A)))) ∧ ((atoiV (cutA (pRead_r1 A)))) ≤ 1000000) ∧ (0 ≤ ((atoiV (cutA (pRead_r2 A)))) ∧ ((atoiV (cutA (pRead_r2 A)))) ≤ 1000000) ∧ ((0 : Int) ≤ 0 ∧ (0 : Int) ≤ 1000000) ∧ (0 ≤ ((atoiV (cutA (pRead_r5 A)))) ∧ ((atoiV (cutA (pRead_r5 A)))) ≤ 1000000) ∧ (0 ≤ (atoiV (cutA A.s)) ∧ (atoiV (cutA A.s)) ≤ 1000000) ∧ (0 ≤ ((atoiV (cutA (pRead_r4 A)))) ∧ ((atoiV (cutA (pRead_r4 A)))) ≤ 1000000) ∧ (0 ≤ ((atoiV (cutA (pRead_r8 A)))) ∧ ((atoiV (cutA (pRead_r8 A)))) ≤ 1000000) ∧ (0 ≤ ((atoiV (cutA (pRead_r9 A)))) ∧ ((atoiV (cutA (pRead_r9 A)))) ≤ 1000000) ∧ (0 ≤ ((atoiV (cutA (pRead_r6 A)))) ∧ ((atoiV (cutA (pRead_r6 A)))) ≤ 1000000)) ∧ ((1 : Int) ≤ 4 ∧ (4 : Int) ≤ 5) := formL_c
                                         refine wE (⟨102, [45], .bool true⟩) (fun _ => q_not (x := (cutF (pRead_r9 A))) rfl (by have g := h70; revert g; cases (cutF (pRead_r9 A)) <;> simp)) ?_
                                         refine wI (fun h72 => ?_) (fun h72 => ?_)
                                         ·skip
                                          have h73 : ((lineN ((⟨(atoiV (cutA A.s)), (atoiV (cutA (pRead_r1 A))), (atoiV (cutA (pRead_r2 A))), 4, 0, (atoiV (cutA (pRead_r5 A))), ⟨(atoiV (cutA A.s)), (atoiV (cutA (pRead_r4 A)))⟩, ⟨(atoiV (cutA (pRead_r8 A))), (atoiV (cutA (pRead_r9 A)))⟩, (atoiV (cutA (pRead_r6 A)))⟩ : Po))).size : Int) ≤ 100 := lineN_c (show ((0 ≤ (atoiV (cutA A.s)) ∧ (atoiV (cutA A.s)) ≤ 1000000) ∧ (0 ≤ ((atoiV (cutA (pRead_r1 A)))) ∧ ((atoiV (cutA (pRead_r1 A)))) ≤ 1000000) ∧ (0 ≤ ((atoiV (cutA (pRead_r2 A)))) ∧ ((atoiV (cutA (pRead_r2 A)))) ≤ 1000000) ∧ ((0 : Int) ≤ 0 ∧ (0 : Int) ≤ 1000000) ∧ (0 ≤ ((atoiV (cutA (pRead_r5 A)))) ∧ ((atoiV (cutA (pRead_r5 A)))) ≤ 1000000) ∧ (0 ≤ (atoiV (cutA A.s)) ∧ (atoiV (cutA A.s)) ≤ 1000000) ∧ (0 ≤ ((atoiV (cutA (pRead_r4 A)))) ∧ ((atoiV (cutA (pRead_r4 A)))) ≤ 1000000) ∧ (0 ≤ ((atoiV (cutA (pRead_r8 A)))) ∧ ((atoiV (cutA (pRead_r8 A)))) ≤ 1000000) ∧ (0 ≤ ((atoiV (cutA (pRead_r9 A)))) ∧ ((atoiV (cutA (pRead_r9 A)))) ≤ 1000000) ∧ (0 ≤ ((atoiV (cutA (pRead_r6 A)))) ∧ ((atoiV (cutA (pRead_r6 A)))) ≤ 1000000)) ∧ ((1 : Int) ≤ 4 ∧ (4 : Int) ≤ 5) by omega)
                                          refine wS (.string ((lineN ((⟨(atoiV (cutA A.s)), (atoiV (cutA (pRead_r1 A))), (atoiV (cutA (pRead_r2 A))), 4, 0, (atoiV (cutA (pRead_r5 A))), ⟨(atoiV (cutA A.s)), (atoiV (cutA (pRead_r4 A)))⟩, ⟨(atoiV (cutA (pRead_r8 A))), (atoiV (cutA (pRead_r9 A)))⟩, (atoiV (cutA (pRead_r6 A)))⟩ : Po)))) :: []) (wC (⟨81, [.tup [1, .agg [6, 11, 16, .bs 1 4, J 0, 29, 6, 24, 41, 46, 33]], .tup []], (.bool true)⟩) (fun _ => q_cV (h := fun w hw => by have hb := decide_eq_true h72; rw [← hb]; exact pFormed_c _ _)) (wC (⟨73, [.tup [.agg [6, 11, 16, .bs 1 4, J 0, 29, 6, 24, 41, 46, 33]], .tup []], 48⟩) (fun _ => q_cV (h := fun w hw => by exact pLine_c (HS.old hw) (show ((0 ≤ (atoiV (cutA A.s)) ∧ (atoiV (cutA A.s)) ≤ 1000000) ∧ (0 ≤ ((atoiV (cutA (pRead_r1 A)))) ∧ ((atoiV (cutA (pRead_r1 A)))) ≤ 1000000) ∧ (0 ≤ ((atoiV (cutA (pRead_r2 A)))) ∧ ((atoiV (cutA (pRead_r2 A)))) ≤ 1000000) ∧ ((0 : Int) ≤ 0 ∧ (0 : Int) ≤ 1000000) ∧ (0 ≤ ((atoiV (cutA (pRead_r5 A)))) ∧ ((atoiV (cutA (pRead_r5 A)))) ≤ 1000000) ∧ (0 ≤ (atoiV (cutA A.s)) ∧ (atoiV (cutA A.s)) ≤ 1000000) ∧ (0 ≤ ((atoiV (cutA (pRead_r4 A)))) ∧ ((atoiV (cutA (pRead_r4 A)))) ≤ 1000000) ∧ (0 ≤ ((atoiV (cutA (pRead_r8 A)))) ∧ ((atoiV (cutA (pRead_r8 A)))) ≤ 1000000) ∧ (0 ≤ ((atoiV (cutA (pRead_r9 A)))) ∧ ((atoiV (cutA (pRead_r9 A)))) ≤ 1000000) ∧ (0 ≤ ((atoiV (cutA (pRead_r6 A)))) ∧ ((atoiV (cutA (pRead_r6 A)))) ≤ 1000000)) ∧ ((1 : Int) ≤ 4 ∧ (4 : Int) ≤ 5) by omega))) ?_))
                                          refine wI (fun h74 => ?_) (fun h74 => ?_)
                                          ·skip
                                           refine wE (⟨tagB .eql, [48, 2], .bool true⟩) (fun _ => q_seq_t rfl rfl h74) ?_
                                           dsimp only [pRead_S]
                                           exact wY (.tup [.agg [6, 11, 16, .bs 1 4, .int .i64 0, 29, 6, 24, 41, 46, 33], .int .i64 0]) [1, 2]
                                          ·skip
                                           refine wE (⟨tagB .eql, [48, 2], .bool false⟩) (fun _ => q_seq_f rfl rfl h74) ?_
                                           exact wY (.tup [.agg [.int .i64 0, .int .i64 0, .int .i64 0, .bs 1 0, .int .i64 0, .int .i64 0, .int .i64 0, .int .i64 0, .int .i64 0, .int .i64 0, .int .i64 0], .int .i64 4]) [1, 2]
                                         ·skip
                                          refine wC (⟨81, [.tup [1, .agg [6, 11, 16, .bs 1 4, J 0, 29, 6, 24, 41, 46, 33]], .tup []], (.bool false)⟩) (fun _ => q_cV (h := fun w hw => by have hb := decide_eq_false h72; rw [← hb]; exact pFormed_c _ _)) ?_
                                          exact wY (.tup [.agg [.int .i64 0, .int .i64 0, .int .i64 0, .bs 1 0, .int .i64 0, .int .i64 0, .int .i64 0, .int .i64 0, .int .i64 0, .int .i64 0, .int .i64 0], .int .i64 4]) [1, 2]
                                       ·skip
                                        refine wE (⟨tagB .eql, [47, 43], .bool false⟩) (fun _ => q_seq_f rfl rfl h69) ?_
                                        exact wY (.tup [.agg [.int .i64 0, .int .i64 0, .int .i64 0, .bs 1 0, .int .i64 0, .int .i64 0, .int .i64 0, .int .i64 0, .int .i64 0, .int .i64 0, .int .i64 0], .int .i64 4]) [1, 2]
                                      ·skip
                                       refine wF .geq 46 (J 0) h68 ?_
                                       exact wY (.tup [.agg [.int .i64 0, .int .i64 0, .int .i64 0, .bs 1 0, .int .i64 0, .int .i64 0, .int .i64 0, .int .i64 0, .int .i64 0, .int .i64 0, .int .i64 0], .int .i64 4]) [1, 2]
                                     ·skip
                                      refine wC (⟨241, [.tup [43], .tup []], .tup [.top, .ifc 378 .top]⟩) (fun _ => q_cErr (h := fun w hw => atoi_f (HS.old hw) _ (show (((cutA (pRead_r9 A))).size : Int) ≤ 100000 by omega) h67)) ?_
                                      exact wY (.tup [.agg [.int .i64 0, .int .i64 0, .int .i64 0, .bs 1 0, .int .i64 0, .int .i64 0, .int .i64 0, .int .i64 0, .int .i64 0, .int .i64 0, .int .i64 0], .int .i64 4]) [1, 2]
                                    ·skip
                                     refine wE (⟨102, [40], .bool true⟩) (fun _ => q_not (x := (cutF (pRead_r8 A))) rfl (by have g := h63; revert g; cases (cutF (pRead_r8 A)) <;> simp)) ?_
                                     exact wY (.tup [.agg [.int .i64 0, .int .i64 0, .int .i64 0, .bs 1 0, .int .i64 0, .int .i64 0, .int .i64 0, .int .i64 0, .int .i64 0, .int .i64 0, .int .i64 0], .int .i64 4]) [1, 2]
                                   ·skip
                                    refine wE (⟨tagB .eql, [42, 38], .bool false⟩) (fun _ => q_seq_f rfl rfl h62) ?_
                                    exact wY (.tup [.agg [.int .i64 0, .int .i64 0, .int .i64 0, .bs 1 0, .int .i64 0, .int .i64 0, .int .i64 0, .int .i64 0, .int .i64 0, .int .i64 0, .int .i64 0], .int .i64 4]) [1, 2]
                                  ·skip
                                   refine wF .geq 41 (J 0) h61 ?_
                                   exact wY (.tup [.agg [.int .i64 0, .int .i64 0, .int .i64 0, .bs 1 0, .int .i64 0, .int .i64 0, .int .i64 0, .int .i64 0, .int .i64 0, .int .i64 0, .int .i64 0], .int .i64 4]) [1, 2]
                                 ·skip
                                  refine wC (⟨241, [.tup [38], .tup []], .tup [.top, .ifc 378 .top]⟩) (fun _ => q_cErr (h := fun w hw => atoi_f (HS.old hw) _ (show (((cutA (pRead_r8 A))).size : Int) ≤ 100000 by omega) h60)) ?_
                                  exact wY (.tup [.agg [.int .i64 0, .int .i64 0, .int .i64 0, .bs 1 0, .int .i64 0, .int .i64 0, .int .i64 0, .int .i64 0, .int .i64 0, .int .i64 0, .int .i64 0], .int .i64 4]) [1, 2]
                                ·skip
                                 refine wE (⟨102, [37], .bool true⟩) (fun _ => q_not (x := (cutF (pRead_r7 A))) rfl (by have g := h56; revert g; cases (cutF (pRead_r7 A)) <;> simp)) ?_
                                 exact wY (.tup [.agg [.int .i64 0, .int .i64 0, .int .i64 0, .bs 1 0, .int .i64 0, .int .i64 0, .int .i64 0, .int .i64 0, .int .i64 0, .int .i64 0, .int .i64 0], .int .i64 4]) [1, 2]
                               ·skip
                                refine wE (⟨tagB .eql, [35, .str 2 31074], .bool false⟩) (fun _ => q_seq_f rfl rfl h55) ?_
                                exact wY (.tup [.agg [.int .i64 0, .int .i64 0, .int .i64 0, .bs 1 0, .int .i64 0, .int .i64 0, .int .i64 0, .int .i64 0, .int .i64 0, .int .i64 0, .int .i64 0], .int .i64 4]) [1, 2]
                              ·skip
                               refine wE (⟨tagB .eql, [34, 31], .bool false⟩) (fun _ => q_seq_f rfl rfl h51) ?_
                               exact wY (.tup [.agg [.int .i64 0, .int .i64 0, .int .i64 0, .bs 1 0, .int .i64 0, .int .i64 0, .int .i64 0, .int .i64 0, .int .i64 0, .int .i64 0, .int .i64 0], .int .i64 4]) [1, 2]
                             ·skip
                              refine wF .geq 33 (J 0) h50 ?_
                              exact wY (.tup [.agg [.int .i64 0, .int .i64 0, .int .i64 0, .bs 1 0, .int .i64 0, .int .i64 0, .int .i64 0, .int .i64 0, .int .i64 0, .int .i64 0, .int .i64 0], .int .i64 4]) [1, 2]
                            ·skip
                             refine wC (⟨241, [.tup [31], .tup []], .tup [.top, .ifc 378 .top]⟩) (fun _ => q_cErr (h := fun w hw => atoi_f (HS.old hw) _ (show (((cutA (pRead_r6 A))).size : Int) ≤ 100000 by omega) h49)) ?_
                             exact wY (.tup [.agg [.int .i64 0, .int .i64 0, .int .i64 0, .bs 1 0, .int .i64 0, .int .i64 0, .int .i64 0, .int .i64 0, .int .i64 0, .int .i64 0, .int .i64 0], .int .i64 4]) [1, 2]
                           ·skip
                            refine wS (.string (cutA (pRead_r6 A)) :: .string (pRead_r7 A) :: []) (wC (⟨239, [.tup [27, .str 1 32], .tup []], .tup [31, 32, (.bool false)]⟩) (fun _ => q_cV (h := fun w hw => by have hb := h48; (try simp only [Bool.not_eq_true] at hb); rw [← hb]; exact cut_n (HS.old hw) _ (show ((pRead_r6 A).size : Int) ≤ 100000 by omega))) ?_)
                            refine wI (fun h49 => ?_) (fun h49 => ?_)
                            ·skip
                             refine wS (I ((atoiV (cutA (pRead_r6 A)))) :: []) (wC (⟨241, [.tup [31], .tup []], .tup [33, .ni]⟩) (fun _ => q_cV (h := fun w hw => by exact atoi_t (HS.old hw) _ (show (((cutA (pRead_r6 A))).size : Int) ≤ 100000 by omega) h49)) ?_)
                             refine wI (fun h50 => ?_) (fun h50 => ?_)
                             ·skip
                              refine wS (.string ((itoaB ((atoiV (cutA (pRead_r6 A)))))) :: []) (wT .geq 33 (J 0) h50 (wC (⟨170, [.tup [33], .tup []], 34⟩) (fun _ => q_cV (h := fun w hw => by exact itoa_n (HS.old hw) _ (show -9223372036854775808 ≤ ((atoiV (cutA (pRead_r6 A)))) ∧ ((atoiV (cutA (pRead_r6 A)))) ≤ 9223372036854775807 by omega))) ?_))
                              refine wI (fun h51 => ?_) (fun h51 => ?_)
                              ·skip
                               have h52 : checkN A.n ((⟨(atoiV (cutA A.s)), (atoiV (cutA (pRead_r1 A))), (atoiV (cutA (pRead_r2 A))), 4, 0, (atoiV (cutA (pRead_r5 A))), ⟨(atoiV (cutA A.s)), (atoiV (cutA (pRead_r4 A)))⟩, ⟨(0), 0⟩, (atoiV (cutA (pRead_r6 A)))⟩ : Po)) = 0 → ((0 ≤ (atoiV (cutA A.s)) ∧ (atoiV (cutA A.s)) ≤ 1000000) ∧ (0 ≤ ((atoiV (cutA (pRead_r1 A)))) ∧ ((atoiV (cutA (pRead_r1 A)))) ≤ 1000000) ∧ (0 ≤ ((atoiV (cutA (pRead_r2 A)))) ∧ ((atoiV (cutA (pRead_r2 A)))) ≤ 1000000) ∧ ((0 : Int) ≤ 0 ∧ (0 : Int) ≤ 1000000) ∧ (0 ≤ ((atoiV (cutA (pRead_r5 A)))) ∧ ((atoiV (cutA (pRead_r5 A)))) ≤ 1000000) ∧ (0 ≤ (atoiV (cutA A.s)) ∧ (atoiV (cutA A.s)) ≤ 1000000) ∧ (0 ≤ ((atoiV (cutA (pRead_r4 A)))) ∧ ((atoiV (cutA (pRead_r4 A)))) ≤ 1000000) ∧ ((0 : Int) ≤ 0 ∧ (0 : Int) ≤ 1000000) ∧ ((0 : Int) ≤ 0 ∧ (0 : Int) ≤ 1000000) ∧ (0 ≤ ((atoiV (cutA (pRead_r6 A)))) ∧ ((atoiV (cutA (pRead_r6 A)))) ≤ 1000000)) ∧ ((1 : Int) ≤ 4 ∧ (4 : Int) ≤ 5) := formL_c
                               refine wE (⟨tagB .eql, [34, 31], .bool true⟩) (fun _ => q_seq_t rfl rfl h51) ?_
                               refine wI (fun h53 => ?_) (fun h53 => ?_)
                               ·skip
                                have h54 : ((lineN ((⟨(atoiV (cutA A.s)), (atoiV (cutA (pRead_r1 A))), (atoiV (cutA (pRead_r2 A))), 4, 0, (atoiV (cutA (pRead_r5 A))), ⟨(atoiV (cutA A.s)), (atoiV (cutA (pRead_r4 A)))⟩, ⟨(0), 0⟩, (atoiV (cutA (pRead_r6 A)))⟩ : Po))).size : Int) ≤ 100 := lineN_c (show ((0 ≤ (atoiV (cutA A.s)) ∧ (atoiV (cutA A.s)) ≤ 1000000) ∧ (0 ≤ ((atoiV (cutA (pRead_r1 A)))) ∧ ((atoiV (cutA (pRead_r1 A)))) ≤ 1000000) ∧ (0 ≤ ((atoiV (cutA (pRead_r2 A)))) ∧ ((atoiV (cutA (pRead_r2 A)))) ≤ 1000000) ∧ ((0 : Int) ≤ 0 ∧ (0 : Int) ≤ 1000000) ∧ (0 ≤ ((atoiV (cutA (pRead_r5 A)))) ∧ ((atoiV (cutA (pRead_r5 A)))) ≤ 1000000) ∧ (0 ≤ (atoiV (cutA A.s)) ∧ (atoiV (cutA A.s)) ≤ 1000000) ∧ (0 ≤ ((atoiV (cutA (pRead_r4 A)))) ∧ ((atoiV (cutA (pRead_r4 A)))) ≤ 1000000) ∧ ((0 : Int) ≤ 0 ∧ (0 : Int) ≤ 1000000) ∧ ((0 : Int) ≤ 0 ∧ (0 : Int) ≤ 1000000) ∧ (0 ≤ ((atoiV (cutA (pRead_r6 A)))) ∧ ((atoiV (cutA (pRead_r6 A)))) ≤ 1000000)) ∧ ((1 : Int) ≤ 4 ∧ (4 : Int) ≤ 5) by omega)
                                refine wS (.string ((lineN ((⟨(atoiV (cutA A.s)), (atoiV (cutA (pRead_r1 A))), (atoiV (cutA (pRead_r2 A))), 4, 0, (atoiV (cutA (pRead_r5 A))), ⟨(atoiV (cutA A.s)), (atoiV (cutA (pRead_r4 A)))⟩, ⟨(0), 0⟩, (atoiV (cutA (pRead_r6 A)))⟩ : Po)))) :: []) (wC (⟨81, [.tup [1, .agg [6, 11, 16, .bs 1 4, J 0, 29, 6, 24, J 0, J 0, 33]], .tup []], (.bool true)⟩) (fun _ => q_cV (h := fun w hw => by have hb := decide_eq_true h53; rw [← hb]; exact pFormed_c _ _)) (wC (⟨73, [.tup [.agg [6, 11, 16, .bs 1 4, J 0, 29, 6, 24, J 0, J 0, 33]], .tup []], 35⟩) (fun _ => q_cV (h := fun w hw => by exact pLine_c (HS.old hw) (show ((0 ≤ (atoiV (cutA A.s)) ∧ (atoiV (cutA A.s)) ≤ 1000000) ∧ (0 ≤ ((atoiV (cutA (pRead_r1 A)))) ∧ ((atoiV (cutA (pRead_r1 A)))) ≤ 1000000) ∧ (0 ≤ ((atoiV (cutA (pRead_r2 A)))) ∧ ((atoiV (cutA (pRead_r2 A)))) ≤ 1000000) ∧ ((0 : Int) ≤ 0 ∧ (0 : Int) ≤ 1000000) ∧ (0 ≤ ((atoiV (cutA (pRead_r5 A)))) ∧ ((atoiV (cutA (pRead_r5 A)))) ≤ 1000000) ∧ (0 ≤ (atoiV (cutA A.s)) ∧ (atoiV (cutA A.s)) ≤ 1000000) ∧ (0 ≤ ((atoiV (cutA (pRead_r4 A)))) ∧ ((atoiV (cutA (pRead_r4 A)))) ≤ 1000000) ∧ ((0 : Int) ≤ 0 ∧ (0 : Int) ≤ 1000000) ∧ ((0 : Int) ≤ 0 ∧ (0 : Int) ≤ 1000000) ∧ (0 ≤ ((atoiV (cutA (pRead_r6 A)))) ∧ ((atoiV (cutA (pRead_r6 A)))) ≤ 1000000)) ∧ ((1 : Int) ≤ 4 ∧ (4 : Int) ≤ 5) by omega))) ?_))
                                refine wI (fun h55 => ?_) (fun h55 => ?_)
                                ·skip
                                 refine wE (⟨tagB .eql, [35, 2], .bool true⟩) (fun _ => q_seq_t rfl rfl h55) ?_
                                 dsimp only [pRead_S]
                                 exact wY (.tup [.agg [6, 11, 16, .bs 1 4, .int .i64 0, 29, 6, 24, .int .i64 0, .int .i64 0, 33], .int .i64 0]) [1, 2]
                                ·skip
                                 refine wE (⟨tagB .eql, [35, 2], .bool false⟩) (fun _ => q_seq_f rfl rfl h55) ?_
                                 exact wY (.tup [.agg [.int .i64 0, .int .i64 0, .int .i64 0, .bs 1 0, .int .i64 0, .int .i64 0, .int .i64 0, .int .i64 0, .int .i64 0, .int .i64 0, .int .i64 0], .int .i64 4]) [1, 2]
                               ·skip
                                refine wC (⟨81, [.tup [1, .agg [6, 11, 16, .bs 1 4, J 0, 29, 6, 24, J 0, J 0, 33]], .tup []], (.bool false)⟩) (fun _ => q_cV (h := fun w hw => by have hb := decide_eq_false h53; rw [← hb]; exact pFormed_c _ _)) ?_
                                exact wY (.tup [.agg [.int .i64 0, .int .i64 0, .int .i64 0, .bs 1 0, .int .i64 0, .int .i64 0, .int .i64 0, .int .i64 0, .int .i64 0, .int .i64 0, .int .i64 0], .int .i64 4]) [1, 2]
                              ·skip
                               refine wE (⟨tagB .eql, [34, 31], .bool false⟩) (fun _ => q_seq_f rfl rfl h51) ?_
                               exact wY (.tup [.agg [.int .i64 0, .int .i64 0, .int .i64 0, .bs 1 0, .int .i64 0, .int .i64 0, .int .i64 0, .int .i64 0, .int .i64 0, .int .i64 0, .int .i64 0], .int .i64 4]) [1, 2]
                             ·skip
                              refine wF .geq 33 (J 0) h50 ?_
                              exact wY (.tup [.agg [.int .i64 0, .int .i64 0, .int .i64 0, .bs 1 0, .int .i64 0, .int .i64 0, .int .i64 0, .int .i64 0, .int .i64 0, .int .i64 0, .int .i64 0], .int .i64 4]) [1, 2]
                            ·skip
                             refine wC (⟨241, [.tup [31], .tup []], .tup [.top, .ifc 378 .top]⟩) (fun _ => q_cErr (h := fun w hw => atoi_f (HS.old hw) _ (show (((cutA (pRead_r6 A))).size : Int) ≤ 100000 by omega) h49)) ?_
                             exact wY (.tup [.agg [.int .i64 0, .int .i64 0, .int .i64 0, .bs 1 0, .int .i64 0, .int .i64 0, .int .i64 0, .int .i64 0, .int .i64 0, .int .i64 0, .int .i64 0], .int .i64 4]) [1, 2]
                          ·skip
                           refine wE (⟨102, [28], .bool true⟩) (fun _ => q_not (x := (cutF (pRead_r5 A))) rfl (by have g := h44; revert g; cases (cutF (pRead_r5 A)) <;> simp)) ?_
                           exact wY (.tup [.agg [.int .i64 0, .int .i64 0, .int .i64 0, .bs 1 0, .int .i64 0, .int .i64 0, .int .i64 0, .int .i64 0, .int .i64 0, .int .i64 0, .int .i64 0], .int .i64 4]) [1, 2]
                         ·skip
                          refine wE (⟨tagB .eql, [30, 26], .bool false⟩) (fun _ => q_seq_f rfl rfl h43) ?_
                          exact wY (.tup [.agg [.int .i64 0, .int .i64 0, .int .i64 0, .bs 1 0, .int .i64 0, .int .i64 0, .int .i64 0, .int .i64 0, .int .i64 0, .int .i64 0, .int .i64 0], .int .i64 4]) [1, 2]
                        ·skip
                         refine wF .geq 29 (J 0) h42 ?_
                         exact wY (.tup [.agg [.int .i64 0, .int .i64 0, .int .i64 0, .bs 1 0, .int .i64 0, .int .i64 0, .int .i64 0, .int .i64 0, .int .i64 0, .int .i64 0, .int .i64 0], .int .i64 4]) [1, 2]
                       ·skip
                        refine wC (⟨241, [.tup [26], .tup []], .tup [.top, .ifc 378 .top]⟩) (fun _ => q_cErr (h := fun w hw => atoi_f (HS.old hw) _ (show (((cutA (pRead_r5 A))).size : Int) ≤ 100000 by omega) h41)) ?_
                        exact wY (.tup [.agg [.int .i64 0, .int .i64 0, .int .i64 0, .bs 1 0, .int .i64 0, .int .i64 0, .int .i64 0, .int .i64 0, .int .i64 0, .int .i64 0, .int .i64 0], .int .i64 4]) [1, 2]
                      ·skip
                       refine wE (⟨102, [23], .bool true⟩) (fun _ => q_not (x := (cutF (pRead_r4 A))) rfl (by have g := h37; revert g; cases (cutF (pRead_r4 A)) <;> simp)) ?_
                       exact wY (.tup [.agg [.int .i64 0, .int .i64 0, .int .i64 0, .bs 1 0, .int .i64 0, .int .i64 0, .int .i64 0, .int .i64 0, .int .i64 0, .int .i64 0, .int .i64 0], .int .i64 4]) [1, 2]
                     ·skip
                      refine wE (⟨tagB .eql, [25, 21], .bool false⟩) (fun _ => q_seq_f rfl rfl h36) ?_
                      exact wY (.tup [.agg [.int .i64 0, .int .i64 0, .int .i64 0, .bs 1 0, .int .i64 0, .int .i64 0, .int .i64 0, .int .i64 0, .int .i64 0, .int .i64 0, .int .i64 0], .int .i64 4]) [1, 2]
                    ·skip
                     refine wF .geq 24 (J 0) h35 ?_
                     exact wY (.tup [.agg [.int .i64 0, .int .i64 0, .int .i64 0, .bs 1 0, .int .i64 0, .int .i64 0, .int .i64 0, .int .i64 0, .int .i64 0, .int .i64 0, .int .i64 0], .int .i64 4]) [1, 2]
                   ·skip
                    refine wC (⟨241, [.tup [21], .tup []], .tup [.top, .ifc 378 .top]⟩) (fun _ => q_cErr (h := fun w hw => atoi_f (HS.old hw) _ (show (((cutA (pRead_r4 A))).size : Int) ≤ 100000 by omega) h34)) ?_
                    exact wY (.tup [.agg [.int .i64 0, .int .i64 0, .int .i64 0, .bs 1 0, .int .i64 0, .int .i64 0, .int .i64 0, .int .i64 0, .int .i64 0, .int .i64 0, .int .i64 0], .int .i64 4]) [1, 2]
                  ·skip
                   refine wE (⟨102, [20], .bool true⟩) (fun _ => q_not (x := (cutF (pRead_r3 A))) rfl (by have g := h30; revert g; cases (cutF (pRead_r3 A)) <;> simp)) ?_
                   exact wY (.tup [.agg [.int .i64 0, .int .i64 0, .int .i64 0, .bs 1 0, .int .i64 0, .int .i64 0, .int .i64 0, .int .i64 0, .int .i64 0, .int .i64 0, .int .i64 0], .int .i64 4]) [1, 2]
                 ·skip
                  refine wE (⟨tagB .eql, [18, .str 3 7954800], .bool false⟩) (fun _ => q_seq_f rfl rfl h29) ?_
                  refine wI (fun h30 => ?_) (fun h30 => ?_)
                  ·skip
                   refine wE (⟨tagB .eql, [18, .str 5 435778314615], .bool true⟩) (fun _ => q_seq_t rfl rfl h30) ?_
                   refine wI (fun h31 => ?_) (fun h31 => ?_)
                   ·skip
                    have h32 : ((cutA (pRead_r4 A)).size : Int) ≤ ((pRead_r4 A).size : Int) := cutA_size _
                    have h33 : ((pRead_r5 A).size : Int) ≤ ((pRead_r4 A).size : Int) := cutR_size _
                    have h34 : -9223372036854775808 ≤ atoiV (cutA (pRead_r4 A)) ∧ atoiV (cutA (pRead_r4 A)) ≤ 9223372036854775807 := atoiV_rng _
                    refine wS (.string (cutA (pRead_r4 A)) :: .string (pRead_r5 A) :: .bool (cutF (pRead_r4 A)) :: []) (wE (⟨102, [20], .bool false⟩) (fun _ => q_not (x := (cutF (pRead_r3 A))) rfl h31) (wC (⟨239, [.tup [19, .str 1 32], .tup []], .tup [21, 22, 23]⟩) (fun _ => q_cV (h := fun w hw => by exact cut_n (HS.old hw) _ (show ((pRead_r4 A).size : Int) ≤ 100000 by omega))) ?_))
                    refine wI (fun h35 => ?_) (fun h35 => ?_)
                    ·skip
                     refine wS (I ((atoiV (cutA (pRead_r4 A)))) :: []) (wC (⟨241, [.tup [21], .tup []], .tup [24, .ni]⟩) (fun _ => q_cV (h := fun w hw => by exact atoi_t (HS.old hw) _ (show (((cutA (pRead_r4 A))).size : Int) ≤ 100000 by omega) h35)) ?_)
                     refine wI (fun h36 => ?_) (fun h36 => ?_)
                     ·skip
                      refine wS (.string ((itoaB ((atoiV (cutA (pRead_r4 A)))))) :: []) (wT .geq 24 (J 0) h36 (wC (⟨170, [.tup [24], .tup []], 25⟩) (fun _ => q_cV (h := fun w hw => by exact itoa_n (HS.old hw) _ (show -9223372036854775808 ≤ ((atoiV (cutA (pRead_r4 A)))) ∧ ((atoiV (cutA (pRead_r4 A)))) ≤ 9223372036854775807 by omega))) ?_))
                      refine wI (fun h37 => ?_) (fun h37 => ?_)
                      ·skip
                       refine wE (⟨tagB .eql, [25, 21], .bool true⟩) (fun _ => q_seq_t rfl rfl h37) ?_
                       refine wI (fun h38 => ?_) (fun h38 => ?_)
                       ·skip
                        have h39 : ((cutA (pRead_r5 A)).size : Int) ≤ ((pRead_r5 A).size : Int) := cutA_size _
                        have h40 : ((pRead_r6 A).size : Int) ≤ ((pRead_r5 A).size : Int) := cutR_size _
                        have h41 : -9223372036854775808 ≤ atoiV (cutA (pRead_r5 A)) ∧ atoiV (cutA (pRead_r5 A)) ≤ 9223372036854775807 := atoiV_rng _
                        refine wS (.string (cutA (pRead_r5 A)) :: .string (pRead_r6 A) :: .bool (cutF (pRead_r5 A)) :: []) (wE (⟨102, [23], .bool false⟩) (fun _ => q_not (x := (cutF (pRead_r4 A))) rfl h38) (wC (⟨239, [.tup [22, .str 1 32], .tup []], .tup [26, 27, 28]⟩) (fun _ => q_cV (h := fun w hw => by exact cut_n (HS.old hw) _ (show ((pRead_r5 A).size : Int) ≤ 100000 by omega))) ?_))
                        refine wI (fun h42 => ?_) (fun h42 => ?_)
                        ·skip
                         refine wS (I ((atoiV (cutA (pRead_r5 A)))) :: []) (wC (⟨241, [.tup [26], .tup []], .tup [29, .ni]⟩) (fun _ => q_cV (h := fun w hw => by exact atoi_t (HS.old hw) _ (show (((cutA (pRead_r5 A))).size : Int) ≤ 100000 by omega) h42)) ?_)
                         refine wI (fun h43 => ?_) (fun h43 => ?_)
                         ·skip
                          refine wS (.string ((itoaB ((atoiV (cutA (pRead_r5 A)))))) :: []) (wT .geq 29 (J 0) h43 (wC (⟨170, [.tup [29], .tup []], 30⟩) (fun _ => q_cV (h := fun w hw => by exact itoa_n (HS.old hw) _ (show -9223372036854775808 ≤ ((atoiV (cutA (pRead_r5 A)))) ∧ ((atoiV (cutA (pRead_r5 A)))) ≤ 9223372036854775807 by omega))) ?_))
                          refine wI (fun h44 => ?_) (fun h44 => ?_)
                          ·skip
                           refine wE (⟨tagB .eql, [30, 26], .bool true⟩) (fun _ => q_seq_t rfl rfl h44) ?_
                           refine wI (fun h45 => ?_) (fun h45 => ?_)
                           ·skip
                            have h46 : ((cutA (pRead_r6 A)).size : Int) ≤ ((pRead_r6 A).size : Int) := cutA_size _
                            have h47 : ((pRead_r7 A).size : Int) ≤ ((pRead_r6 A).size : Int) := cutR_size _
                            have h48 : -9223372036854775808 ≤ atoiV (cutA (pRead_r6 A)) ∧ atoiV (cutA (pRead_r6 A)) ≤ 9223372036854775807 := atoiV_rng _
                            refine wE (⟨102, [28], .bool false⟩) (fun _ => q_not (x := (cutF (pRead_r5 A))) rfl h45) ?_
                            refine wI (fun h49 => ?_) (fun h49 => ?_)
                            ·skip
                             refine wS (.string (cutA (pRead_r6 A)) :: .string (pRead_r7 A) :: []) (wC (⟨239, [.tup [27, .str 1 32], .tup []], .tup [31, 32, (.bool true)]⟩) (fun _ => q_cV (h := fun w hw => by have hb := h49; (try simp only [Bool.not_eq_true] at hb); rw [← hb]; exact cut_n (HS.old hw) _ (show ((pRead_r6 A).size : Int) ≤ 100000 by omega))) ?_)
                             refine wI (fun h50 => ?_) (fun h50 => ?_)
                             ·skip
                              refine wS (I ((atoiV (cutA (pRead_r6 A)))) :: []) (wC (⟨241, [.tup [31], .tup []], .tup [33, .ni]⟩) (fun _ => q_cV (h := fun w hw => by exact atoi_t (HS.old hw) _ (show (((cutA (pRead_r6 A))).size : Int) ≤ 100000 by omega) h50)) ?_)
                              refine wI (fun h51 => ?_) (fun h51 => ?_)
                              ·skip
                               refine wS (.string ((itoaB ((atoiV (cutA (pRead_r6 A)))))) :: []) (wT .geq 33 (J 0) h51 (wC (⟨170, [.tup [33], .tup []], 34⟩) (fun _ => q_cV (h := fun w hw => by exact itoa_n (HS.old hw) _ (show -9223372036854775808 ≤ ((atoiV (cutA (pRead_r6 A)))) ∧ ((atoiV (cutA (pRead_r6 A)))) ≤ 9223372036854775807 by omega))) ?_))
                               refine wI (fun h52 => ?_) (fun h52 => ?_)
                               ·skip
                                refine wE (⟨tagB .eql, [34, 31], .bool true⟩) (fun _ => q_seq_t rfl rfl h52) ?_
                                exact wY (.tup [.agg [.int .i64 0, .int .i64 0, .int .i64 0, .bs 1 0, .int .i64 0, .int .i64 0, .int .i64 0, .int .i64 0, .int .i64 0, .int .i64 0, .int .i64 0], .int .i64 4]) [1, 2]
                               ·skip
                                refine wE (⟨tagB .eql, [34, 31], .bool false⟩) (fun _ => q_seq_f rfl rfl h52) ?_
                                exact wY (.tup [.agg [.int .i64 0, .int .i64 0, .int .i64 0, .bs 1 0, .int .i64 0, .int .i64 0, .int .i64 0, .int .i64 0, .int .i64 0, .int .i64 0, .int .i64 0], .int .i64 4]) [1, 2]
                              ·skip
                               refine wF .geq 33 (J 0) h51 ?_
                               exact wY (.tup [.agg [.int .i64 0, .int .i64 0, .int .i64 0, .bs 1 0, .int .i64 0, .int .i64 0, .int .i64 0, .int .i64 0, .int .i64 0, .int .i64 0, .int .i64 0], .int .i64 4]) [1, 2]
                             ·skip
                              refine wC (⟨241, [.tup [31], .tup []], .tup [.top, .ifc 378 .top]⟩) (fun _ => q_cErr (h := fun w hw => atoi_f (HS.old hw) _ (show (((cutA (pRead_r6 A))).size : Int) ≤ 100000 by omega) h50)) ?_
                              exact wY (.tup [.agg [.int .i64 0, .int .i64 0, .int .i64 0, .bs 1 0, .int .i64 0, .int .i64 0, .int .i64 0, .int .i64 0, .int .i64 0, .int .i64 0, .int .i64 0], .int .i64 4]) [1, 2]
                            ·skip
                             refine wS (.string (cutA (pRead_r6 A)) :: .string (pRead_r7 A) :: []) (wC (⟨239, [.tup [27, .str 1 32], .tup []], .tup [31, 32, (.bool false)]⟩) (fun _ => q_cV (h := fun w hw => by have hb := h49; (try simp only [Bool.not_eq_true] at hb); rw [← hb]; exact cut_n (HS.old hw) _ (show ((pRead_r6 A).size : Int) ≤ 100000 by omega))) ?_)
                             refine wI (fun h50 => ?_) (fun h50 => ?_)
                             ·skip
                              refine wS (I ((atoiV (cutA (pRead_r6 A)))) :: []) (wC (⟨241, [.tup [31], .tup []], .tup [33, .ni]⟩) (fun _ => q_cV (h := fun w hw => by exact atoi_t (HS.old hw) _ (show (((cutA (pRead_r6 A))).size : Int) ≤ 100000 by omega) h50)) ?_)
                              refine wI (fun h51 => ?_) (fun h51 => ?_)
                              ·skip
                               refine wS (.string ((itoaB ((atoiV (cutA (pRead_r6 A)))))) :: []) (wT .geq 33 (J 0) h51 (wC (⟨170, [.tup [33], .tup []], 34⟩) (fun _ => q_cV (h := fun w hw => by exact itoa_n (HS.old hw) _ (show -9223372036854775808 ≤ ((atoiV (cutA (pRead_r6 A)))) ∧ ((atoiV (cutA (pRead_r6 A)))) ≤ 9223372036854775807 by omega))) ?_))
                               refine wI (fun h52 => ?_) (fun h52 => ?_)
                               ·skip
                                have h53 : checkN A.n ((⟨(atoiV (cutA A.s)), (atoiV (cutA (pRead_r1 A))), (atoiV (cutA (pRead_r2 A))), 5, 0, (atoiV (cutA (pRead_r5 A))), ⟨(atoiV (cutA A.s)), (atoiV (cutA (pRead_r4 A)))⟩, ⟨(0), 0⟩, (atoiV (cutA (pRead_r6 A)))⟩ : Po)) = 0 → ((0 ≤ (atoiV (cutA A.s)) ∧ (atoiV (cutA A.s)) ≤ 1000000) ∧ (0 ≤ ((atoiV (cutA (pRead_r1 A)))) ∧ ((atoiV (cutA (pRead_r1 A)))) ≤ 1000000) ∧ (0 ≤ ((atoiV (cutA (pRead_r2 A)))) ∧ ((atoiV (cutA (pRead_r2 A)))) ≤ 1000000) ∧ ((0 : Int) ≤ 0 ∧ (0 : Int) ≤ 1000000) ∧ (0 ≤ ((atoiV (cutA (pRead_r5 A)))) ∧ ((atoiV (cutA (pRead_r5 A)))) ≤ 1000000) ∧ (0 ≤ (atoiV (cutA A.s)) ∧ (atoiV (cutA A.s)) ≤ 1000000) ∧ (0 ≤ ((atoiV (cutA (pRead_r4 A)))) ∧ ((atoiV (cutA (pRead_r4 A)))) ≤ 1000000) ∧ ((0 : Int) ≤ 0 ∧ (0 : Int) ≤ 1000000) ∧ ((0 : Int) ≤ 0 ∧ (0 : Int) ≤ 1000000) ∧ (0 ≤ ((atoiV (cutA (pRead_r6 A)))) ∧ ((atoiV (cutA (pRead_r6 A)))) ≤ 1000000)) ∧ ((1 : Int) ≤ 5 ∧ (5 : Int) ≤ 5) := formL_c
                                refine wE (⟨tagB .eql, [34, 31], .bool true⟩) (fun _ => q_seq_t rfl rfl h52) ?_
                                refine wI (fun h54 => ?_) (fun h54 => ?_)
                                ·skip
                                 have h55 : ((lineN ((⟨(atoiV (cutA A.s)), (atoiV (cutA (pRead_r1 A))), (atoiV (cutA (pRead_r2 A))), 5, 0, (atoiV (cutA (pRead_r5 A))), ⟨(atoiV (cutA A.s)), (atoiV (cutA (pRead_r4 A)))⟩, ⟨(0), 0⟩, (atoiV (cutA (pRead_r6 A)))⟩ : Po))).size : Int) ≤ 100 := lineN_c (show ((0 ≤ (atoiV (cutA A.s)) ∧ (atoiV (cutA A.s)) ≤ 1000000) ∧ (0 ≤ ((atoiV (cutA (pRead_r1 A)))) ∧ ((atoiV (cutA (pRead_r1 A)))) ≤ 1000000) ∧ (0 ≤ ((atoiV (cutA (pRead_r2 A)))) ∧ ((atoiV (cutA (pRead_r2 A)))) ≤ 1000000) ∧ ((0 : Int) ≤ 0 ∧ (0 : Int) ≤ 1000000) ∧ (0 ≤ ((atoiV (cutA (pRead_r5 A)))) ∧ ((atoiV (cutA (pRead_r5 A)))) ≤ 1000000) ∧ (0 ≤ (atoiV (cutA A.s)) ∧ (atoiV (cutA A.s)) ≤ 1000000) ∧ (0 ≤ ((atoiV (cutA (pRead_r4 A)))) ∧ ((atoiV (cutA (pRead_r4 A)))) ≤ 1000000) ∧ ((0 : Int) ≤ 0 ∧ (0 : Int) ≤ 1000000) ∧ ((0 : Int) ≤ 0 ∧ (0 : Int) ≤ 1000000) ∧ (0 ≤ ((atoiV (cutA (pRead_r6 A)))) ∧ ((atoiV (cutA (pRead_r6 A)))) ≤ 1000000)) ∧ ((1 : Int) ≤ 5 ∧ (5 : Int) ≤ 5) by omega)
                                 refine wS (.string ((lineN ((⟨(atoiV (cutA A.s)), (atoiV (cutA (pRead_r1 A))), (atoiV (cutA (pRead_r2 A))), 5, 0, (atoiV (cutA (pRead_r5 A))), ⟨(atoiV (cutA A.s)), (atoiV (cutA (pRead_r4 A)))⟩, ⟨(0), 0⟩, (atoiV (cutA (pRead_r6 A)))⟩ : Po)))) :: []) (wC (⟨81, [.tup [1, .agg [6, 11, 16, .bs 1 5, J 0, 29, 6, 24, J 0, J 0, 33]], .tup []], (.bool true)⟩) (fun _ => q_cV (h := fun w hw => by have hb := decide_eq_true h54; rw [← hb]; exact pFormed_c _ _)) (wC (⟨73, [.tup [.agg [6, 11, 16, .bs 1 5, J 0, 29, 6, 24, J 0, J 0, 33]], .tup []], 35⟩) (fun _ => q_cV (h := fun w hw => by exact pLine_c (HS.old hw) (show ((0 ≤ (atoiV (cutA A.s)) ∧ (atoiV (cutA A.s)) ≤ 1000000) ∧ (0 ≤ ((atoiV (cutA (pRead_r1 A)))) ∧ ((atoiV (cutA (pRead_r1 A)))) ≤ 1000000) ∧ (0 ≤ ((atoiV (cutA (pRead_r2 A)))) ∧ ((atoiV (cutA (pRead_r2 A)))) ≤ 1000000) ∧ ((0 : Int) ≤ 0 ∧ (0 : Int) ≤ 1000000) ∧ (0 ≤ ((atoiV (cutA (pRead_r5 A)))) ∧ ((atoiV (cutA (pRead_r5 A)))) ≤ 1000000) ∧ (0 ≤ (atoiV (cutA A.s)) ∧ (atoiV (cutA A.s)) ≤ 1000000) ∧ (0 ≤ ((atoiV (cutA (pRead_r4 A)))) ∧ ((atoiV (cutA (pRead_r4 A)))) ≤ 1000000) ∧ ((0 : Int) ≤ 0 ∧ (0 : Int) ≤ 1000000) ∧ ((0 : Int) ≤ 0 ∧ (0 : Int) ≤ 1000000) ∧ (0 ≤ ((atoiV (cutA (pRead_r6 A)))) ∧ ((atoiV (cutA (pRead_r6 A)))) ≤ 1000000)) ∧ ((1 : Int) ≤ 5 ∧ (5 : Int) ≤ 5) by omega))) ?_))
                                 refine wI (fun h56 => ?_) (fun h56 => ?_)
                                 ·skip
                                  refine wE (⟨tagB .eql, [35, 2], .bool true⟩) (fun _ => q_seq_t rfl rfl h56) ?_
                                  dsimp only [pRead_S]
                                  exact wY (.tup [.agg [6, 11, 16, .bs 1 5, .int .i64 0, 29, 6, 24, .int .i64 0, .int .i64 0, 33], .int .i64 0]) [1, 2]
                                 ·skip
                                  refine wE (⟨tagB .eql, [35, 2], .bool false⟩) (fun _ => q_seq_f rfl rfl h56) ?_
                                  exact wY (.tup [.agg [.int .i64 0, .int .i64 0, .int .i64 0, .bs 1 0, .int .i64 0, .int .i64 0, .int .i64 0, .int .i64 0, .int .i64 0, .int .i64 0, .int .i64 0], .int .i64 4]) [1, 2]
                                ·skip
                                 refine wC (⟨81, [.tup [1, .agg [6, 11, 16, .bs 1 5, J 0, 29, 6, 24, J 0, J 0, 33]], .tup []], (.bool false)⟩) (fun _ => q_cV (h := fun w hw => by have hb := decide_eq_false h54; rw [← hb]; exact pFormed_c _ _)) ?_
                                 exact wY (.tup [.agg [.int .i64 0, .int .i64 0, .int .i64 0, .bs 1 0, .int .i64 0, .int .i64 0, .int .i64 0, .int .i64 0, .int .i64 0, .int .i64 0, .int .i64 0], .int .i64 4]) [1, 2]
                               ·skip
                                refine wE (⟨tagB .eql, [34, 31], .bool false⟩) (fun _ => q_seq_f rfl rfl h52) ?_
                                exact wY (.tup [.agg [.int .i64 0, .int .i64 0, .int .i64 0, .bs 1 0, .int .i64 0, .int .i64 0, .int .i64 0, .int .i64 0, .int .i64 0, .int .i64 0, .int .i64 0], .int .i64 4]) [1, 2]
                              ·skip
                               refine wF .geq 33 (J 0) h51 ?_
                               exact wY (.tup [.agg [.int .i64 0, .int .i64 0, .int .i64 0, .bs 1 0, .int .i64 0, .int .i64 0, .int .i64 0, .int .i64 0, .int .i64 0, .int .i64 0, .int .i64 0], .int .i64 4]) [1, 2]
                             ·skip
                              refine wC (⟨241, [.tup [31], .tup []], .tup [.top, .ifc 378 .top]⟩) (fun _ => q_cErr (h := fun w hw => atoi_f (HS.old hw) _ (show (((cutA (pRead_r6 A))).size : Int) ≤ 100000 by omega) h50)) ?_
                              exact wY (.tup [.agg [.int .i64 0, .int .i64 0, .int .i64 0, .bs 1 0, .int .i64 0, .int .i64 0, .int .i64 0, .int .i64 0, .int .i64 0, .int .i64 0, .int .i64 0], .int .i64 4]) [1, 2]
                           ·skip
                            refine wE (⟨102, [28], .bool true⟩) (fun _ => q_not (x := (cutF (pRead_r5 A))) rfl (by have g := h45; revert g; cases (cutF (pRead_r5 A)) <;> simp)) ?_
                            exact wY (.tup [.agg [.int .i64 0, .int .i64 0, .int .i64 0, .bs 1 0, .int .i64 0, .int .i64 0, .int .i64 0, .int .i64 0, .int .i64 0, .int .i64 0, .int .i64 0], .int .i64 4]) [1, 2]
                          ·skip
                           refine wE (⟨tagB .eql, [30, 26], .bool false⟩) (fun _ => q_seq_f rfl rfl h44) ?_
                           exact wY (.tup [.agg [.int .i64 0, .int .i64 0, .int .i64 0, .bs 1 0, .int .i64 0, .int .i64 0, .int .i64 0, .int .i64 0, .int .i64 0, .int .i64 0, .int .i64 0], .int .i64 4]) [1, 2]
                         ·skip
                          refine wF .geq 29 (J 0) h43 ?_
                          exact wY (.tup [.agg [.int .i64 0, .int .i64 0, .int .i64 0, .bs 1 0, .int .i64 0, .int .i64 0, .int .i64 0, .int .i64 0, .int .i64 0, .int .i64 0, .int .i64 0], .int .i64 4]) [1, 2]
                        ·skip
                         refine wC (⟨241, [.tup [26], .tup []], .tup [.top, .ifc 378 .top]⟩) (fun _ => q_cErr (h := fun w hw => atoi_f (HS.old hw) _ (show (((cutA (pRead_r5 A))).size : Int) ≤ 100000 by omega) h42)) ?_
                         exact wY (.tup [.agg [.int .i64 0, .int .i64 0, .int .i64 0, .bs 1 0, .int .i64 0, .int .i64 0, .int .i64 0, .int .i64 0, .int .i64 0, .int .i64 0, .int .i64 0], .int .i64 4]) [1, 2]
                       ·skip
                        refine wE (⟨102, [23], .bool true⟩) (fun _ => q_not (x := (cutF (pRead_r4 A))) rfl (by have g := h38; revert g; cases (cutF (pRead_r4 A)) <;> simp)) ?_
                        exact wY (.tup [.agg [.int .i64 0, .int .i64 0, .int .i64 0, .bs 1 0, .int .i64 0, .int .i64 0, .int .i64 0, .int .i64 0, .int .i64 0, .int .i64 0, .int .i64 0], .int .i64 4]) [1, 2]
                      ·skip
                       refine wE (⟨tagB .eql, [25, 21], .bool false⟩) (fun _ => q_seq_f rfl rfl h37) ?_
                       exact wY (.tup [.agg [.int .i64 0, .int .i64 0, .int .i64 0, .bs 1 0, .int .i64 0, .int .i64 0, .int .i64 0, .int .i64 0, .int .i64 0, .int .i64 0, .int .i64 0], .int .i64 4]) [1, 2]
                     ·skip
                      refine wF .geq 24 (J 0) h36 ?_
                      exact wY (.tup [.agg [.int .i64 0, .int .i64 0, .int .i64 0, .bs 1 0, .int .i64 0, .int .i64 0, .int .i64 0, .int .i64 0, .int .i64 0, .int .i64 0, .int .i64 0], .int .i64 4]) [1, 2]
                    ·skip
                     refine wC (⟨241, [.tup [21], .tup []], .tup [.top, .ifc 378 .top]⟩) (fun _ => q_cErr (h := fun w hw => atoi_f (HS.old hw) _ (show (((cutA (pRead_r4 A))).size : Int) ≤ 100000 by omega) h35)) ?_
                     exact wY (.tup [.agg [.int .i64 0, .int .i64 0, .int .i64 0, .bs 1 0, .int .i64 0, .int .i64 0, .int .i64 0, .int .i64 0, .int .i64 0, .int .i64 0, .int .i64 0], .int .i64 4]) [1, 2]
                   ·skip
                    refine wE (⟨102, [20], .bool true⟩) (fun _ => q_not (x := (cutF (pRead_r3 A))) rfl (by have g := h31; revert g; cases (cutF (pRead_r3 A)) <;> simp)) ?_
                    exact wY (.tup [.agg [.int .i64 0, .int .i64 0, .int .i64 0, .bs 1 0, .int .i64 0, .int .i64 0, .int .i64 0, .int .i64 0, .int .i64 0, .int .i64 0, .int .i64 0], .int .i64 4]) [1, 2]
                  ·skip
                   refine wE (⟨tagB .eql, [18, .str 5 435778314615], .bool false⟩) (fun _ => q_seq_f rfl rfl h30) ?_
                   exact wY (.tup [.agg [.int .i64 0, .int .i64 0, .int .i64 0, .bs 1 0, .int .i64 0, .int .i64 0, .int .i64 0, .int .i64 0, .int .i64 0, .int .i64 0, .int .i64 0], .int .i64 4]) [1, 2]
             ·skip
              refine wE (⟨102, [15], .bool true⟩) (fun _ => q_not (x := (cutF (pRead_r2 A))) rfl (by have g := h22; revert g; cases (cutF (pRead_r2 A)) <;> simp)) ?_
              exact wY (.tup [.agg [.int .i64 0, .int .i64 0, .int .i64 0, .bs 1 0, .int .i64 0, .int .i64 0, .int .i64 0, .int .i64 0, .int .i64 0, .int .i64 0, .int .i64 0], .int .i64 4]) [1, 2]
            ·skip
             refine wE (⟨tagB .eql, [17, 13], .bool false⟩) (fun _ => q_seq_f rfl rfl h21) ?_
             exact wY (.tup [.agg [.int .i64 0, .int .i64 0, .int .i64 0, .bs 1 0, .int .i64 0, .int .i64 0, .int .i64 0, .int .i64 0, .int .i64 0, .int .i64 0, .int .i64 0], .int .i64 4]) [1, 2]
           ·skip
            refine wF .geq 16 (J 0) h20 ?_
            exact wY (.tup [.agg [.int .i64 0, .int .i64 0, .int .i64 0, .bs 1 0, .int .i64 0, .int .i64 0, .int .i64 0, .int .i64 0, .int .i64 0, .int .i64 0, .int .i64 0], .int .i64 4]) [1, 2]
          ·skip
           refine wC (⟨241, [.tup [13], .tup []], .tup [.top, .ifc 378 .top]⟩) (fun _ => q_cErr (h := fun w hw => atoi_f (HS.old hw) _ (show (((cutA (pRead_r2 A))).size : Int) ≤ 100000 by omega) h19)) ?_
           exact wY (.tup [.agg [.int .i64 0, .int .i64 0, .int .i64 0, .bs 1 0, .int .i64 0, .int .i64 0, .int .i64 0, .int .i64 0, .int .i64 0, .int .i64 0, .int .i64 0], .int .i64 4]) [1, 2]
         ·skip
          refine wE (⟨102, [10], .bool true⟩) (fun _ => q_not (x := (cutF (pRead_r1 A))) rfl (by have g := h15; revert g; cases (cutF (pRead_r1 A)) <;> simp)) ?_
          exact wY (.tup [.agg [.int .i64 0, .int .i64 0, .int .i64 0, .bs 1 0, .int .i64 0, .int .i64 0, .int .i64 0, .int .i64 0, .int .i64 0, .int .i64 0, .int .i64 0], .int .i64 4]) [1, 2]
        ·skip
         refine wE (⟨tagB .eql, [12, 8], .bool false⟩) (fun _ => q_seq_f rfl rfl h14) ?_
         exact wY (.tup [.agg [.int .i64 0, .int .i64 0, .int .i64 0, .bs 1 0, .int .i64 0, .int .i64 0, .int .i64 0, .int .i64 0, .int .i64 0, .int .i64 0, .int .i64 0], .int .i64 4]) [1, 2]
       ·skip
        refine wF .geq 11 (J 0) h13 ?_
        exact wY (.tup [.agg [.int .i64 0, .int .i64 0, .int .i64 0, .bs 1 0, .int .i64 0, .int .i64 0, .int .i64 0, .int .i64 0, .int .i64 0, .int .i64 0, .int .i64 0], .int .i64 4]) [1, 2]
      ·skip
       refine wC (⟨241, [.tup [8], .tup []], .tup [.top, .ifc 378 .top]⟩) (fun _ => q_cErr (h := fun w hw => atoi_f (HS.old hw) _ (show (((cutA (pRead_r1 A))).size : Int) ≤ 100000 by omega) h12)) ?_
       exact wY (.tup [.agg [.int .i64 0, .int .i64 0, .int .i64 0, .bs 1 0, .int .i64 0, .int .i64 0, .int .i64 0, .int .i64 0, .int .i64 0, .int .i64 0, .int .i64 0], .int .i64 4]) [1, 2]
     ·skip
      refine wE (⟨102, [5], .bool true⟩) (fun _ => q_not (x := (cutF A.s)) rfl (by have g := h8; revert g; cases (cutF A.s) <;> simp)) ?_
      exact wY (.tup [.agg [.int .i64 0, .int .i64 0, .int .i64 0, .bs 1 0, .int .i64 0, .int .i64 0, .int .i64 0, .int .i64 0, .int .i64 0, .int .i64 0, .int .i64 0], .int .i64 4]) [1, 2]
    ·skip
     refine wE (⟨tagB .eql, [7, 3], .bool false⟩) (fun _ => q_seq_f rfl rfl h7) ?_
     exact wY (.tup [.agg [.int .i64 0, .int .i64 0, .int .i64 0, .bs 1 0, .int .i64 0, .int .i64 0, .int .i64 0, .int .i64 0, .int .i64 0, .int .i64 0, .int .i64 0], .int .i64 4]) [1, 2]
   ·skip
    refine wF .geq 6 (J 0) h6 ?_
    exact wY (.tup [.agg [.int .i64 0, .int .i64 0, .int .i64 0, .bs 1 0, .int .i64 0, .int .i64 0, .int .i64 0, .int .i64 0, .int .i64 0, .int .i64 0, .int .i64 0], .int .i64 4]) [1, 2]
  ·skip
   refine wC (⟨241, [.tup [3], .tup []], .tup [.top, .ifc 378 .top]⟩) (fun _ => q_cErr (h := fun w hw => atoi_f (HS.old hw) _ (show ((cutA A.s).size : Int) ≤ 100000 by omega) h5)) ?_
   exact wY (.tup [.agg [.int .i64 0, .int .i64 0, .int .i64 0, .bs 1 0, .int .i64 0, .int .i64 0, .int .i64 0, .int .i64 0, .int .i64 0, .int .i64 0, .int .i64 0], .int .i64 4]) [1, 2]
 ·skip
  refine wC (⟨75, [.tup [1], .tup []], (.bool false)⟩) (fun _ => q_cV (h := fun w hw => by have hb := decide_eq_false h1; rw [← hb]; exact pMany_n _ _)) ?_
  exact wY (.tup [.agg [.int .i64 0, .int .i64 0, .int .i64 0, .bs 1 0, .int .i64 0, .int .i64 0, .int .i64 0, .int .i64 0, .int .i64 0, .int .i64 0, .int .i64 0], .int .i64 1]) [1, 2]
theorem pRead_a (A : pRead_A) (w : World) (hn : A.n = 3 ∨ A.n = 5) : RdgOK A.n A.s (tupR (pRead_r A w)) := by
 unfold pRead_r
 rw [if_pos hn]
 repeat' with_reducible first
  | exact rdL
  | refine rdI (fun _ => ?_) (fun _ => ?_)
 all_goals (rename_i h1 h2; dsimp only [tupR]; exact .inr ⟨rfl, h1, h2⟩)
theorem pRead_b (A : pRead_A) (w : World) (p : Po) (hc : checkN A.n p = 0) (hs : lineN p = A.s) : tupR (pRead_r A w) = (p, 0) := by
 obtain ⟨n, s⟩ := A
 simp only at hc hs
 subst hs
 have hn : n = 3 ∨ n = 5 := (formN2 hc).2.2.1
 unfold pRead_r
 rw [if_pos hn]
 have hf := (formL hc).1
 have hl := line_words p
 have hb := noBl_words hf
 have e1 : (bstr 3 6645094 = bstr 4 1701734758) = False := by decide +kernel
 have e2 : (bstr 4 1701536116 = bstr 4 1701734758) = False := by decide +kernel
 have e3 : (bstr 4 1701536116 = bstr 3 6645094) = False := by decide +kernel
 have e4 : (bstr 3 7954800 = bstr 4 1701734758) = False := by decide +kernel
 have e5 : (bstr 3 7954800 = bstr 3 6645094) = False := by decide +kernel
 have e6 : (bstr 3 7954800 = bstr 4 1701536116) = False := by decide +kernel
 have e7 : (bstr 5 435778314615 = bstr 4 1701734758) = False := by decide +kernel
 have e8 : (bstr 5 435778314615 = bstr 3 6645094) = False := by decide +kernel
 have e9 : (bstr 5 435778314615 = bstr 4 1701536116) = False := by decide +kernel
 have e10 : (bstr 5 435778314615 = bstr 3 7954800) = False := by decide +kernel
 have cA : ∀ (a b : ByteArray) (r : List ByteArray), noBl a.data.toList → cutA (joinB a (b :: r)) = a := fun a b r h => (cut_join a b r h).1
 have cR : ∀ (a b : ByteArray) (r : List ByteArray), noBl a.data.toList → cutR (joinB a (b :: r)) = joinB b r := fun a b r h => (cut_join a b r h).2.1
 have cF : ∀ (a b : ByteArray) (r : List ByteArray), noBl a.data.toList → cutF (joinB a (b :: r)) = true := fun a b r h => (cut_join a b r h).2.2
 have dA : ∀ (a : ByteArray), noBl a.data.toList → cutA (joinB a []) = a := fun a h => (cut_end a h).1
 have dR : ∀ (a : ByteArray), noBl a.data.toList → cutR (joinB a []) = bstr 0 0 := fun a h => (cut_end a h).2.1
 have dF : ∀ (a : ByteArray), noBl a.data.toList → cutF (joinB a []) = false := fun a h => (cut_end a h).2.2
 have o : ∀ z : Int, 0 ≤ z ∧ z ≤ 1000000 → atoiOK (itoaB z) = true := fun z hz => (atoi_itoa (by omega)).1
 have v : ∀ z : Int, 0 ≤ z ∧ z ≤ 1000000 → atoiV (itoaB z) = z := fun z hz => (atoi_itoa (by omega)).2
 rw [hl]
 rcases formK hc with ⟨r, nu, t, c, q, am, rfl | rfl⟩ | ⟨r, nu, t, q, ⟨x1, x2⟩, am, rfl⟩ | ⟨r, nu, t, q, k, am, rfl | rfl⟩ | ⟨r, nu, t, q, k, y, m, am, rfl, hy⟩
 all_goals
  simp only at hf
  obtain ⟨h1, h2, h3, h4, h5, h6, h7, h8, h9, h10⟩ := hf
  first
  | (simp [wordsP, hy] at hl hb; simp [wordsP, pRead_r1, pRead_r10, pRead_r2, pRead_r3, pRead_r4, pRead_r5, pRead_r6, pRead_r7, pRead_r8, pRead_r9, cA, cR, cF, dA, dR, dF, o, v, hb, hl, hc, tupR, h1, h2, h3, h4, h5, h6, h7, h8, h9, h10, e1, e2, e3, e4, e5, e6, e7, e8, e9, e10, hy])
  | (simp [wordsP] at hl hb; simp [wordsP, pRead_r1, pRead_r10, pRead_r2, pRead_r3, pRead_r4, pRead_r5, pRead_r6, pRead_r7, pRead_r8, pRead_r9, cA, cR, cF, dA, dR, dF, o, v, hb, hl, hc, tupR, h1, h2, h3, h4, h5, h6, h7, h8, h9, h10, e1, e2, e3, e4, e5, e6, e7, e8, e9, e10])
theorem pRead_r_n (n : Int) (s : ByteArray) (w : World) : tupR (pRead_r ⟨n, s⟩ w) = readN n s := by
 by_cases hn : n = 3 ∨ n = 5
 ·exact read_eq hn (pRead_a ⟨n, s⟩ w hn) fun p hc hs => pRead_b ⟨n, s⟩ w p hc hs
 ·rw [readN_not hn]
  unfold pRead_r
  rw [if_neg hn]
theorem pRead_n {w : World} (HS : StrW w) (n : Int) (s : ByteArray) (h : (s.size : Int) ≤ 300) : Calls Tryz.prog 17 #[.int .i64 n, .string s] w fun e w' => e = .returned (.tuple #[.agg #[.int .i64 (readN n s).1.reeve, .int .i64 (readN n s).1.number, .int .i64 (readN n s).1.tick, .int .u8 (readN n s).1.kind, .int .i64 (readN n s).1.cse, .int .i64 (readN n s).1.owner, .int .i64 (readN n s).1.of.reeve, .int .i64 (readN n s).1.of.number, .int .i64 (readN n s).1.by_.reeve, .int .i64 (readN n s).1.by_.number, .int .i64 (readN n s).1.amount], .int .i64 (readN n s).2]) ∧ Chg (fun _ => False) w w' := by
 rw [← pRead_r_n n s w]
 exact pRead_any ⟨n, s⟩ w HS h
end Go.Proofs.YtocabeobfbhajaaGreatDoor.Sx
end
