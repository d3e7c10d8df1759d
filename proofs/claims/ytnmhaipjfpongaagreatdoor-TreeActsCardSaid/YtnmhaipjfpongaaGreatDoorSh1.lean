/- The shelf of this seat lies in one text: YtnmhaipjfpongaaGreatDoorSh2. -/
import Derived.Test.YtnmhaipjfpongaaGreatDoorSh2
